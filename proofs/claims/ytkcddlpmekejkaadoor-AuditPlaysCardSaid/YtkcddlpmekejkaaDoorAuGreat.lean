/- How great entries may be. -/
import Derived.Test.YtkcddlpmekejkaaDoorAuPut
import Derived.Test.YtkcddlpmekejkaaDoorAuEq
import Derived.Test.YtkcddlpmekejkaaDoorAmSl
import Derived.Test.YtkcddlpmekejkaaDoorAmFlat
import Derived.Test.YtkcddlpmekejkaaDoorLatGrid
namespace Go.Proofs.YtkcddlpmekejkaaDoor.Au
open Go Go.RowKit Am Latt
set_option maxRecDepth 100000
set_option linter.unusedSimpArgs false
set_option linter.unusedVariables false
attribute [-simp] Am.binEv Am.intBin Am.read1
attribute [local simp] binEv_lss binEv_leq binEv_gtr binEv_geq binEv_eql binEv_neq binEv_add binEv_sub binEv_mul binEv_shr58 read1_ro read1_mu
variable {R : Ro}
theorem ents_of : ∀ {L : List (List AV)}, (∀ x ∈ L, Shape [.int .i64, .int .i64, .int .i64, .str] x) → ∃ E : List Ent, L = E.map cellsE
  | [], _ => ⟨[], rfl⟩
  | x :: L, h => by
    obtain ⟨P, rfl⟩ := ents_of (fun y hy => h y (List.mem_cons_of_mem _ hy))
    obtain ⟨v, r, h1, ⟨z, rfl, _⟩, v2, r2, h2, ⟨z2, rfl, _⟩, v3, r3, h3, ⟨z3, rfl, _⟩, v4, r4, h4, ⟨t, rfl, _⟩, h5⟩ := h x (List.mem_cons_self ..)
    cases (show r4 = [] from h5)
    subst h4 h3 h2 h1
    exact ⟨(z, z2, z3, t) :: P, rfl⟩
def Ents (R : Ro) (a : AV) (E : List Ent) : Prop := Sl R 4 a (E.map cellsE)
theorem Ents.len {a : AV} {E : List Ent} (h : Ents R a E) : (a = .nilslice ∧ E.length = 0) ∨ ∃ b off cap, a = .slice (.ro b) off E.length (.known cap) := by
  rcases h with ⟨h, hL⟩ | ⟨b, off, cap, h, _⟩
  · exact .inl ⟨h, by simpa using hL⟩
  · exact .inr ⟨b, off, cap, by simpa using h⟩
theorem Ents.at {a : AV} {E : List Ent} (h : Ents R a E) {i : Nat} (hi : i < E.length) : ∃ b off cap, a = .slice (.ro b) off E.length (.known cap) ∧ R b (off + i * 4) = some (.int .i64 E[i].1) ∧ R b (off + i * 4 + 1) = some (.int .i64 E[i].2.1) ∧ R b (off + i * 4 + 2) = some (.int .i64 E[i].2.2.1) ∧ R b (off + i * 4 + 3) = some (.str E[i].2.2.2) ∧
    List.mapM (fun k => R b (off + i * 4 + k)) (List.range 4) = some (cellsE E[i]) := by
  obtain ⟨b, off, cap, ha, hc⟩ := Sl.at h (show i < (E.map cellsE).length by simpa using hi)
  have h0 : R b (off + i * 4) = some (.int .i64 E[i].1) := hc 0 _ (by simp [cellsE])
  have h1 : R b (off + i * 4 + 1) = some (.int .i64 E[i].2.1) := hc 1 _ (by simp [cellsE])
  have h2 : R b (off + i * 4 + 2) = some (.int .i64 E[i].2.2.1) := hc 2 _ (by simp [cellsE])
  have h3 : R b (off + i * 4 + 3) = some (.str E[i].2.2.2) := hc 3 _ (by simp [cellsE])
  refine ⟨b, off, cap, by simpa using ha, h0, h1, h2, h3, ?_⟩
  rw [show List.range 4 = [0, 1, 2, 3] from rfl]
  simp [h0, h1, h2, h3, cellsE]
set_option maxHeartbeats 4000000 in
theorem great_ok {H0 : AH} {tv : AV} {T : List (List Bool)} (ht : TabIn R H0 tv T) {a : AV} {E : List Ent} (h : Ents R a E) : ACalls Tryd.prog R 8 [tv, a] H0 fun v H' => H' = H0 ∧ ∃ b, v = .bool b ∧ (b = false → E.length ≤ 100) := by
  have hlen := h.len
  refine ACalls.of_wpE Fns.ok8 (by simp [Fns.a8]) ?_
  simp [Fns.a8]
  refine AWp.loop (fun e H' => H' = H0 ∧ e 0 = tv ∧ e 1 = a ∧ ∃ (i : Nat) (s : Int), e 6 = .int .i64 i ∧ e 5 = .int .i64 s ∧ i ≤ E.length ∧ i ≤ 101 ∧ 0 ≤ s ∧ s ≤ i * 50001) (fun e _ => match e 6 with | .int _ i => ((E.length : Int) - i).toNat | _ => 0) ⟨rfl, rfl, rfl, 0, 0, rfl, rfl, by omega, by omega, by omega, by omega⟩ ?_
  rintro e H' ⟨rfl, h0, h1, i, s, h6, h5, hi, hi2, hs0, hs⟩
  refine wpE_sound _ ?_
  have htl := ht.lenEv
  by_cases hlt : i < E.length
  · obtain ⟨b, off, cap, ha, r0, r1, r2, r3, _⟩ := h.at hlt
    have hlt' : (i : Int) < (E.length : Int) := by omega
    have hw1 := i64_small ((i : Int) + 1) (by omega) (by omega)
    obtain ⟨m, hm, hm2⟩ : ∃ m : Int, m = (if 50001 < ((E[i].2.2.2).length : Int) then 50001 else ((E[i].2.2.2).length : Int)) ∧ 0 ≤ m ∧ m ≤ 50001 := ⟨_, rfl, by split <;> omega⟩
    have hw2 := i64_small (s + m) (by omega) (by omega)
    have h1' := h1
    rw [ha] at h1'
    by_cases hb : i ≤ 100
    · have hb' : (i : Int) ≤ 100 := by omega
      simp [h0, h1', h6, h5, hlt, hlt', hb, hb', r3, foldI, ← hm, hw1, hw2]
      exact ⟨⟨ha.symm, i + 1, by simp, by omega, by omega, by omega, by omega⟩, by omega⟩
    · have hb' : ¬ (i : Int) ≤ 100 := by omega
      simp [h0, h1', h6, h5, hlt, hlt', hb, hb']
      rcases htl with ⟨htv, hT0⟩ | ⟨tl, toff, tcap, htv⟩ <;>
      · refine AWp.loop (fun e H1 => H1 = H' ∧ e 0 = tv ∧ e 1 = a ∧ e 5 = .int .i64 s ∧ ∃ j : Nat, e 7 = .int .i64 j ∧ j ≤ T.length ∧ j ≤ 21) (fun e _ => match e 7 with | .int _ i => ((T.length : Int) - i).toNat | _ => 0) ⟨rfl, by simp [h0], by simp [h1, ha], by simp [h5], 0, by simp, by omega, by omega⟩ ?_
        rintro e H1 ⟨rfl, h0, h1, h5, j, h7, hj, hj2⟩
        refine wpE_sound _ ?_
        rw [htv] at h0
        by_cases hjl : j < T.length
        · have hjl' : (j : Int) < (T.length : Int) := by omega
          have hw1 : IntKind.i64.wrap ((j : Int) + 1) = (j : Int) + 1 := i64_small _ (by omega) (by omega)
          have hri : T[j]? = some T[j] := List.getElem?_eq_getElem hjl
          by_cases hj3 : j ≤ 20
          · have hj3' : (j : Int) ≤ 20 := by omega
            first
            | (exfalso; omega)
            | (rw [htv] at ht
               rcases ht.row hri with ⟨L, o, c, hrd, _⟩ | ⟨hn, hrd | ⟨A, c, hrd⟩⟩
               · by_cases hl : 20 < T[j].length
                 · have hl' : (20 : Int) < (T[j].length : Int) := by omega
                   simp [h0, h7, hjl, hjl', hj3, hj3', hrd, hl, hl']
                 · have hl' : ¬ (20 : Int) < (T[j].length : Int) := by omega
                   simp [h0, h7, hjl, hjl', hj3, hj3', hrd, hl, hl', hw1]
                   exact ⟨⟨htv.symm, h1, h5, j + 1, by simp, by omega, by omega⟩, by omega⟩
               · simp [h0, h7, hjl, hjl', hj3, hj3', hrd, hw1]
                 exact ⟨⟨htv.symm, h1, h5, j + 1, by simp, by omega, by omega⟩, by omega⟩
               · simp [h0, h7, hjl, hjl', hj3, hj3', hrd, hw1]
                 exact ⟨⟨htv.symm, h1, h5, j + 1, by simp, by omega, by omega⟩, by omega⟩)
          · have hj3' : ¬ (j : Int) ≤ 20 := by omega
            have hl : (20 : Int) < (T.length : Int) := by omega
            have hl' : 20 < T.length := by omega
            first
            | (exfalso; omega)
            | simp [h0, h7, hjl, hjl', hj3, hj3', hl, hl']
        · obtain rfl : j = T.length := by omega
          have hnT : ¬ (T.length : Int) < 0 := by omega
          rw [ha] at h1
          by_cases h4 : 20 < T.length
          · have h4' : (20 : Int) < (T.length : Int) := by omega
            first
            | (exfalso; omega)
            | simp [h0, h1, h5, h7, h4, h4', hnT]
          · have h4' : ¬ (20 : Int) < (T.length : Int) := by omega
            by_cases h6 : 100 < E.length
            · have h6' : (100 : Int) < (E.length : Int) := by omega
              first
              | (exfalso; omega)
              | simp [h0, h1, h5, h7, h4, h4', h6, h6', hnT]
            · have h6' : ¬ (100 : Int) < (E.length : Int) := by omega
              simp [h0, h1, h5, h7, h4, h4', h6, h6', hnT]
              try omega
  · obtain rfl : i = E.length := by omega
    have hnl : ¬ (E.length : Int) < 0 := by omega
    rcases hlen with ⟨ha, hE0⟩ | ⟨b, off, cap, ha⟩ <;> rcases htl with ⟨htv, hT0⟩ | ⟨tl, toff, tcap, htv⟩ <;>
    · have h1' := h1
      rw [ha] at h1'
      simp [h0, h1', h6, h5, hnl]
      refine AWp.loop (fun e H1 => H1 = H' ∧ e 0 = tv ∧ e 1 = a ∧ e 5 = .int .i64 s ∧ ∃ j : Nat, e 7 = .int .i64 j ∧ j ≤ T.length ∧ j ≤ 21) (fun e _ => match e 7 with | .int _ i => ((T.length : Int) - i).toNat | _ => 0) ⟨rfl, by simp [h0], by simp [h1, ha], by simp [h5], 0, by simp, by omega, by omega⟩ ?_
      rintro e H1 ⟨rfl, h0, h1, h5, j, h7, hj, hj2⟩
      refine wpE_sound _ ?_
      rw [htv] at h0
      by_cases hjl : j < T.length
      · have hjl' : (j : Int) < (T.length : Int) := by omega
        have hw1 : IntKind.i64.wrap ((j : Int) + 1) = (j : Int) + 1 := i64_small _ (by omega) (by omega)
        have hri : T[j]? = some T[j] := List.getElem?_eq_getElem hjl
        by_cases hj3 : j ≤ 20
        · have hj3' : (j : Int) ≤ 20 := by omega
          first
          | (exfalso; omega)
          | (rw [htv] at ht
             rcases ht.row hri with ⟨L, o, c, hrd, _⟩ | ⟨hn, hrd | ⟨A, c, hrd⟩⟩
             · by_cases hl : 20 < T[j].length
               · have hl' : (20 : Int) < (T[j].length : Int) := by omega
                 simp [h0, h7, hjl, hjl', hj3, hj3', hrd, hl, hl']
               · have hl' : ¬ (20 : Int) < (T[j].length : Int) := by omega
                 simp [h0, h7, hjl, hjl', hj3, hj3', hrd, hl, hl', hw1]
                 exact ⟨⟨htv.symm, h1, h5, j + 1, by simp, by omega, by omega⟩, by omega⟩
             · simp [h0, h7, hjl, hjl', hj3, hj3', hrd, hw1]
               exact ⟨⟨htv.symm, h1, h5, j + 1, by simp, by omega, by omega⟩, by omega⟩
             · simp [h0, h7, hjl, hjl', hj3, hj3', hrd, hw1]
               exact ⟨⟨htv.symm, h1, h5, j + 1, by simp, by omega, by omega⟩, by omega⟩)
        · have hj3' : ¬ (j : Int) ≤ 20 := by omega
          have hl : (20 : Int) < (T.length : Int) := by omega
          have hl' : 20 < T.length := by omega
          first
          | (exfalso; omega)
          | simp [h0, h7, hjl, hjl', hj3, hj3', hl, hl']
      · obtain rfl : j = T.length := by omega
        have hnT : ¬ (T.length : Int) < 0 := by omega
        rw [ha] at h1
        by_cases h4 : 20 < T.length
        · have h4' : (20 : Int) < (T.length : Int) := by omega
          first
          | (exfalso; omega)
          | simp [h0, h1, h5, h7, h4, h4', hnT]
        · have h4' : ¬ (20 : Int) < (T.length : Int) := by omega
          by_cases h6 : 100 < E.length
          · have h6' : (100 : Int) < (E.length : Int) := by omega
            first
            | (exfalso; omega)
            | simp [h0, h1, h5, h7, h4, h4', h6, h6', hnT]
          · have h6' : ¬ (100 : Int) < (E.length : Int) := by omega
            simp [h0, h1, h5, h7, h4, h4', h6, h6', hnT]
            try omega
end Go.Proofs.YtkcddlpmekejkaaDoor.Au
