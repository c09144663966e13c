/- A word of a line: what the program's code takes of it. -/
import Derived.Test.YthcpfmibcoeleaaDoorCmDec
import Derived.Test.YthcpfmibcoeleaaDoorCmNum
import Derived.Test.YthcpfmibcoeleaaDoorIdParse
import Derived.Lib.AtoiAllCases
namespace Go.Proofs.YthcpfmibcoeleaaDoor.Cm
open Go Go.RowKit Am Go.Proofs.YthcpfmibcoeleaaDoor.Id
set_option maxRecDepth 100000
set_option linter.unusedSimpArgs false
set_option linter.unusedVariables false
attribute [-simp] Am.binEv Am.intBin Am.read1
attribute [local simp] binEv_lss binEv_leq binEv_gtr binEv_geq binEv_eql binEv_neq binEv_add binEv_sub binEv_mul binEv_shr58 read1_ro read1_mu binEv_seql binEv_sneq
variable {R : Ro}
theorem odd (r : Int) (H : AH) : ACalls Tryd.prog R 47 [.int .i32 r] H fun v H' => H' = H ∧ v = .bool (decide (r < 32) || decide (126 < r)) := by
  refine ACalls.of_wpE Fns.ok47 (by simp [Fns.a47]) ?_
  by_cases h : r < 32
  · simp [Fns.a47, h]
  · simp [Fns.a47, h]
theorem bodied47 : bodied Tryd.prog 47 = true := by kernel_rfl
set_option maxHeartbeats 1000000 in
theorem indexFunc (s : List UInt8) (hs : s.length ≤ 100000) (H : AH) : ACalls Tryd.prog R 78 [.str s, .fn (.func 47) [] [], .bool true] H fun v H' => (∃ E, H' = H ++ E) ∧ ∃ z : Int, v = .int .i64 z ∧ (0 ≤ z ↔ allB s = false) := by
  refine ACalls.of_wpE Fns.ok78 (by simp [Fns.a78]) ?_
  simp [Fns.a78]
  refine AWp.loop (fun e H1 => e 1 = .fn (.func 47) [] [] ∧ e 2 = .bool true ∧ e 10 = .ptr (.mu H.length) 0 ∧ ∃ i : Nat, H1 = H ++ [.siter s i] ∧ i ≤ s.length ∧ allB (s.take i) = true)
    (fun e H1 => match H1[H.length]? with | some (.siter s i) => s.length - i | _ => 0) ⟨by simp, by simp, by simp, 0, rfl, by omega, by simp [allB]⟩ ?_
  rintro e H1 ⟨h1, h2, h10, i, rfl, hi, hall⟩
  refine wpE_sound _ ?_
  by_cases hl : i < s.length
  · obtain ⟨b, hb⟩ : ∃ b, s[i]? = some b := ⟨_, List.getElem?_eq_getElem hl⟩
    have hsplit : s = s.take i ++ b :: s.drop (i + 1) := by
      obtain ⟨h, e⟩ := List.getElem?_eq_some_iff.1 hb
      rw [← e, ← List.drop_eq_getElem_cons h, List.take_append_drop]
    obtain ⟨d, hd⟩ : ∃ d, Utf8.decode ⟨⟨s⟩⟩ i = d := ⟨_, rfl⟩
    simp [h1, h2, h10, hl, hd, bodied47, fnArgs]
    refine (odd _ _).mono ?_
    rintro v H2 ⟨rfl, rfl⟩
    cases hf : fineB b with
    | true =>
      obtain ⟨e1, g1, g2⟩ := dec_fine hb hf
      rw [hd] at e1
      subst e1
      have k1 : ¬ (b.toNat : Int) < 32 := by omega
      have k2 : ¬ 126 < (b.toNat : Int) := by omega
      simp [h1, h2, h10, k1, k2, eqEv]
      refine ⟨⟨by omega, ?_⟩, by omega⟩
      unfold allB at hall ⊢
      rw [List.take_add_one, hb, List.all_append, hall]
      simp [hf]
    | false =>
      have hodd := dec_odd hb hf
      rw [hd] at hodd
      have hna : allB s = false := by rw [hsplit]; unfold allB; rw [List.all_append, List.all_cons, hf]; simp
      have hi0 : (0 : Int) ≤ (i : Int) := by omega
      by_cases k1 : (d.1 : Int) < 32
      · simp [h1, h2, h10, k1, eqEv, hna]
      · have k2 : 126 < (d.1 : Int) := by omega
        simp [h1, h2, h10, k1, k2, eqEv, hna]
  · obtain rfl : i = s.length := by omega
    rw [List.take_length] at hall
    simp [h1, h2, h10, hall]
theorem contains (s : List UInt8) (hs : s.length ≤ 100000) (H : AH) : ACalls Tryd.prog R 46 [.str s, .fn (.func 47) [] []] H fun v H' => (∃ E, H' = H ++ E) ∧ v = .bool (!allB s) := by
  refine ACalls.of_wpE Fns.ok46 (by simp [Fns.a46]) ?_
  simp [Fns.a46]
  refine ACalls.of_wpE Fns.ok60 (by simp [Fns.a60]) ?_
  simp [Fns.a60]
  refine (indexFunc s hs _).mono ?_
  rintro v H' ⟨hE, z, rfl, hz⟩
  cases h : allB s with
  | true =>
    rw [h] at hz
    have hz' : ¬ 0 ≤ z := fun e => by have := hz.1 e; cases this
    simp [hz', hE]
  | false =>
    have hz' : 0 ≤ z := hz.2 h
    simp [hz', hE]
theorem fine (s : List UInt8) (hs : s.length ≤ 100000) (H : AH) : ACalls Tryd.prog R 39 [.str s] H fun v H' => (∃ E, H' = H ++ E) ∧ v = .bool (fineF s) := by
  refine ACalls.of_wpE Fns.ok39 (by simp [Fns.a39]) ?_
  by_cases h1 : 1 ≤ s.length
  · have h1' : (1 : Int) ≤ (s.length : Int) := by omega
    by_cases h2 : s.length ≤ 200
    · have h2' : (s.length : Int) ≤ 200 := by omega
      simp [Fns.a39, h1', h2']
      refine (contains s hs _).mono ?_
      rintro v H' ⟨hE, rfl⟩
      simp [fineF, h1, h2, hE]
    · have h2' : ¬ (s.length : Int) ≤ 200 := by omega
      simp [Fns.a39, h1', h2', fineF, h2]
  · have h1' : ¬ (1 : Int) ≤ (s.length : Int) := by omega
    simp [Fns.a39, h1', fineF, h1]
theorem digits (L : Lb R) (w : List UInt8) (hw : w.length ≤ 10000) (H : AH) : ACalls Tryd.prog R 36 [.str w] H fun v H' => (∃ E, H' = H ++ E) ∧ ∃ (n : Int) (ok : Bool), v = .tuple [.int .i64 n, .bool ok] ∧ numF w = if ok then some n else none := by
  refine ACalls.of_wpE Fns.ok36 (by simp [Fns.a36]) ?_
  simp [Fns.a36]
  refine (L.atoi w _ hw).mono ?_
  rintro v H' ⟨z, y, E, rfl, rfl, hz, hn⟩
  by_cases hq : ∃ z', Lib.atoiAll w = .ok z'
  · obtain ⟨z', hq⟩ := hq
    obtain ⟨rfl, rfl⟩ := hz z' hq
    obtain ⟨b1, b2⟩ := Lib.atoiAll_bounds hq
    have hF : numF w = if Lib.itoa z = w ∧ -9999 ≤ z ∧ z ≤ 9999 then some z else none := by unfold numF; rw [hq]
    simp [eqEv]
    refine (L.itoa z _ (by omega) (by omega)).mono ?_
    rintro v H' ⟨rfl, rfl⟩
    by_cases k1 : Lib.itoa z = w
    · by_cases k2 : -9999 ≤ z
      · by_cases k3 : z ≤ 9999
        · simp [k1, k2, k3, hF]
        · simp [k1, k2, k3, hF]
      · simp [k1, k2, hF]
    · simp [k1, hF]
  · obtain ⟨t, p, rfl⟩ := hn fun z' e => hq ⟨z', e⟩
    have hF : numF w = none := by
      unfold numF
      split
      · rename_i n e; exact absurd ⟨n, e⟩ hq
      · rfl
    simp [eqEv, hF]
theorem label (n : Int) (H : AH) : ACalls Tryd.prog R 37 [.int .i64 n] H fun v H' => H' = H ∧ v = .bool (decide (0 ≤ n) && decide (n < 64)) := by
  refine ACalls.of_wpE Fns.ok37 (by simp [Fns.a37]) ?_
  by_cases h : 0 ≤ n
  · simp [Fns.a37, h]
  · simp [Fns.a37, h]
end Go.Proofs.YthcpfmibcoeleaaDoor.Cm
