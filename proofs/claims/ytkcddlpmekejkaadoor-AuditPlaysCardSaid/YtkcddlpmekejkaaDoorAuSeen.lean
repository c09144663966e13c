/- What is told to a label. -/
import Derived.Test.YtkcddlpmekejkaaDoorAuPut
namespace Go.Proofs.YtkcddlpmekejkaaDoor.Au
open Go Go.RowKit Am Latt
set_option maxRecDepth 100000
set_option linter.unusedSimpArgs false
set_option linter.unusedVariables false
attribute [-simp] Am.binEv Am.intBin Am.read1
attribute [local simp] binEv_lss binEv_leq binEv_gtr binEv_geq binEv_eql binEv_neq binEv_add binEv_sub binEv_mul binEv_shr58 read1_ro read1_mu
variable {R : Ro}
variable {H : AH} {g l k n : Nat} {rv : AV} {E : List Ent} {up dn : List Nat}
def seenF (up : List Nat) (E : List Ent) (a : Int) : List Ent := E.filter fun x => bel up x.1 a
theorem seenF_succ (up : List Nat) (a : Int) {j : Nat} {x : Ent} (hx : E[j]? = some x) : seenF up (E.take (j + 1)) a = seenF up (E.take j) a ++ if bel up x.1 a then [x] else [] := by
  unfold seenF
  rw [List.take_add_one, hx, List.filter_append]
  cases h : bel up x.1 a <;> simp [h]
theorem seenF_le (up : List Nat) (E : List Ent) (a : Int) : (seenF up E a).length ≤ E.length := List.length_filter_le _ _
set_option maxHeartbeats 4000000 in
theorem seen_at (h : GAt H g l k rv n E) (hL : LatAt R H l up dn) (hE : E.length ≤ 1000) (a : Int) :
    ACalls Tryd.prog R 19 [.ptr (.mu g) 0, .int .i64 a] H fun v H' => RowOwn H H' v (seenF up E a).length 4 40 (flat (seenF up E a)) := by
  refine ACalls.of_wpE Fns.ok19 (by simp [Fns.a19]) ?_
  simp [Fns.a19]
  refine (len_at h).mono ?_
  rintro v H' ⟨rfl, rfl⟩
  simp
  refine AWp.loop (fun e H1 => e 0 = .ptr (.mu g) 0 ∧ e 1 = .int .i64 a ∧ e 8 = .int .i64 E.length ∧ ∃ j : Nat, e 9 = .int .i64 j ∧ j ≤ E.length ∧ RowOwn H' H1 (e 5) (seenF up (E.take j) a).length 4 40 (flat (seenF up (E.take j) a)))
    (fun e _ => match e 9 with | .int _ i => ((E.length : Int) - i).toNat | _ => 0) ⟨rfl, rfl, rfl, 0, rfl, by omega, by simpa [seenF, flat] using RowOwn.nil H' 4 40⟩ ?_
  rintro e H1 ⟨h0, h1, h8, j, h9, hj, hrow⟩
  refine wpE_sound _ ?_
  by_cases hjl : j < E.length
  · have hjl' : (j : Int) < (E.length : Int) := by omega
    have hw1 := i64_small ((j : Int) + 1) (by omega) (by omega)
    obtain ⟨x, hx⟩ : ∃ x, E[j]? = some x := ⟨_, List.getElem?_eq_getElem hjl⟩
    have hG1 := h.keeps hrow.keeps
    have hL1 := latK hL hrow.keeps
    have hb := hG1.box
    have hsu := seenF_succ up a hx
    have hfl := flat_len E
    have hf0 := flat_get hx (r := 0) (by omega)
    rw [Nat.add_zero] at hf0
    have hf := flat_at hx
    have hsl := seenF_le up (E.take j) a
    have htl : (E.take j).length ≤ j := by rw [List.length_take]; omega
    obtain ⟨q, hrv, hq⟩ : ∃ q, rv = .slice (.mu q) 0 E.length (.opn 0) ∧ H1[q]? = some (.row (flat E) 40 4) := by
      rcases hG1.rowc with ⟨_, e2⟩ | ⟨q, e1, e2⟩
      · rw [e2] at hjl; simp at hjl
      · exact ⟨q, e1, e2⟩
    rw [hrv] at hb
    have hrd : readN R H1 4 (.mu q) (j * 4) = some (cellsE x) := by
      simp only [readN, hq, Option.bind_some, AO.content, hf]
      rw [if_pos (by omega)]
    simp [h0, h1, h8, h9, hjl, hjl']
    refine AWp.sched [0, 1, 2, 3, 4, 5, 6, 7, 8, 9, 10, 11, 12, 13] Fns.mixed (by decide +kernel) ?_
    simp [h0, h1, h8, h9, hjl, hjl', hb, hq, hf0, cellsE]
    refine (below_ok hL1 _ _).mono ?_
    rintro v H2 ⟨rfl, rfl⟩
    cases hbb : bel up x.1 a with
    | false =>
      rw [hbb] at hsu
      simp at hsu
      simp [h0, h1, h8, h9, hw1, recheck]
      exact ⟨⟨j + 1, by simp, by omega, by rw [hsu]; exact hrow⟩, by omega⟩
    | true =>
      rw [hbb] at hsu
      simp at hsu
      obtain ⟨G, hG, hrow2, _, _⟩ := hrow.push (R := R) (by' := 40) (t' := 40) (new := cellsE x) (by omega) (by omega) (by omega) (by simp [cellsE, AV.oneCell]) rfl (.known 1)
      have hf4 : (List.take 4 (List.drop (j * 4) (flat E))) = cellsE x := hf
      simp only [cellsE] at hG hf4
      have hfi : j * 4 + 4 ≤ E.length * 4 := by omega
      simp [h0, h1, h8, h9, hw1, hjl, hjl', hb, hq, hf4, hfl, hfi, fillA, splice, zerosEv, AV.oneCell, hG, recheck]
      exact ⟨⟨j + 1, by simp, by omega, by rw [hsu, flat_app, flat_one]; simpa using hrow2⟩, by omega⟩
  · obtain rfl : j = E.length := by omega
    rw [List.take_length] at hrow
    simp [h0, h1, h8, h9]
    exact hrow
end Go.Proofs.YtkcddlpmekejkaaDoor.Au
