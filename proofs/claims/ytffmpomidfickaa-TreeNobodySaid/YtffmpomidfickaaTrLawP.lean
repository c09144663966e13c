/- TreePlays: what the law's code computes. -/
import Derived.Test.YtffmpomidfickaaTrStand
import Derived.Test.YtffmpomidfickaaCtrs
namespace Go.Proofs.Ytffmpomidfickaa.Tr
open Go Go.RowKit Am
set_option maxRecDepth 100000
set_option maxHeartbeats 4000000
set_option linter.unusedSimpArgs false
set_option linter.unusedVariables false
attribute [-simp] Am.binEv Am.intBin Am.read1 Am.readN
attribute [local simp] binEv_lss binEv_leq binEv_gtr binEv_geq binEv_eql binEv_neq binEv_add binEv_sub binEv_mul read1_ro read1_mu
variable {R : Ro}
open PT DT
theorem ACalls.no {P : Program} {f : FuncId} {args : List AV} {H : AH} {Q : AV → AH → Prop} (h : ACalls P noRo f args H Q) (R : Ro) : ACalls P R f args H Q :=
  fun base _ => h base (noRo_ok base)
theorem DD.has {H : AH} {t w : Nat} {P : PT} (h : DD H t w P) (p : PA) : ACalls Try.prog R 18 [.ptr (.mu t) 0, .agg [.int .i64 p.a, .int .i64 p.b, .int .i64 p.c]] H fun v G => G = H ∧ v = .bool (decide (P.pos p ≠ none)) := by
  obtain ⟨⟨j, cp, hT⟩, _, g⟩ := h
  exact phas hT g p
theorem DD.rhas {H : AH} {t w : Nat} {P : PT} (h : DD H t w P) (p : PA) : ACalls Try.prog R 19 [.ptr (.mu w) 0, .agg [.int .i64 p.a, .int .i64 p.b, .int .i64 p.c]] H fun v G => G = H ∧ v = .bool (decide (P.pos p ≠ none)) := by
  obtain ⟨_, ⟨D, hR, rfl⟩, g⟩ := h
  exact rhas_ok hR g.sides p
theorem dd_new (p : PA) {H : AH} (H2 : AH) (hH2 : H2 = (H ++ [.cells p.cells 25, .cells (ndV [leafN p]) 54, .cells [.slice (.mu (H.length + 1)) 0 1 (.known 1)] 60]) ++ [.cells p.cells 25, .cells (rleaf p) 75, .cells [.ptr (.mu (H.length + 3 + 1)) 0] 45]) : DD H2 (H.length + 2) (H.length + 3 + 2) (.leaf p) := by
  have h1 := new_tre p H
  have h2 := rnew_rt p (H ++ [.cells p.cells 25, .cells (ndV [leafN p]) 54, .cells [.slice (.mu (H.length + 1)) 0 1 (.known 1)] 60])
  simp only [List.length_append, List.length_cons, List.length_nil] at h2
  rw [hH2]
  exact ⟨⟨_, _, h1.app _⟩, ⟨_, h2, rfl⟩, good_leaf p⟩
theorem plays {p : PA} {c : AV} {A : List TA} (hA : Acts R c A) : ACalls Try.prog R 4 [p.av, c] [] fun v _ => v = .bool true := by
  have hall := fun H => ACalls.no (Fns.awake H) R
  refine ACalls.of_wpE Fns.ok4 (by simp [Fns.a4]) ?_
  simp [Fns.a4, PA.av, PA.cells]
  refine (hall _).mono ?_
  rintro v H ⟨rfl, rfl⟩
  have lens' : ∀ H : AH, (AOp.lenL (.t 0)).eval Try.prog R (fun _ => c) H = some (.int .i64 A.length, H) := fun H => by
    rcases hA.len with ⟨rfl, h0⟩ | ⟨b, off, cap, rfl⟩
    · simp [h0]
    · simp
  simp only [AOp.eval, X.ev] at lens'
  simp [lens']
  by_cases hlong : 100 < A.length
  · have : (100 : Int) < (A.length : Int) := by omega
    simp [hlong, this]
  have hlong' : ¬ (100 : Int) < (A.length : Int) := by omega
  have kn := fun H => new_ok (R := R) p H
  have kr := fun H => rnew_ok (R := R) p H
  simp only [PA.av, PA.cells] at kn kr
  simp [hlong, hlong', AO.content, readN_mu]
  refine (kn _).mono ?_
  rintro v H ⟨rfl, rfl⟩
  simp [AO.content, readN_mu]
  refine (kr _).mono ?_
  rintro v H ⟨rfl, rfl⟩
  have hdd := dd_new p (H := [AO.cells p.cells 25]) _ rfl
  simp only [PA.cells, List.length_cons, List.length_nil, List.cons_append, List.nil_append] at hdd
  simp
  refine AWp.loop (fun e G => e 1 = c ∧ e 5 = .ptr (.mu 3) 0 ∧ e 6 = .ptr (.mu 6) 0 ∧ ∃ i : Nat, e 7 = .int .i64 i ∧ i ≤ A.length ∧ DD G 3 6 (acts (A.take i) (.leaf p))) (fun e _ => match e 7 with | .int _ i => ((A.length : Int) - i).toNat | _ => 0)
    ⟨by simp, by simp, by simp, 0, by simp, by omega, by simpa [acts] using hdd⟩ ?_
  rintro e G ⟨h1, h5, h6, i, h7, hi, hd⟩
  refine wpE_sound _ ?_
  by_cases hlt : i < A.length
  · have hlt' : (i : Int) < (A.length : Int) := by omega
    have hw1 : IntKind.i64.wrap ((i : Int) + 1) = (i : Int) + 1 := by rw [wrap_nat] <;> omega
    obtain ⟨a, ha⟩ : ∃ a, A[i]? = some a := ⟨_, List.getElem?_eq_getElem hlt⟩
    obtain ⟨b, off, cap, hc', r9, rp, rq, _, _, _⟩ := hA.at ha
    have hnext : (actR a (acts (A.take i) (.leaf p))).2 = acts (A.take (i + 1)) (.leaf p) := by
      rw [List.take_add_one, ha, Option.toList_some, acts_snoc]
    simp only [PA.cells] at rp rq
    rw [hc'] at h1
    simp [h1, h5, h6, h7, hlt, hlt']
    refine AWp.sched [0, 1, 2, 3, 4, 5, 6, 7, 8, 9, 10, 11, 12, 13, 14, 16, 17, 18, 19, 20, 21, 15, 22, 23, 24, 25, 26, 27, 28, 29, 30, 31, 33, 34, 35, 36, 37, 38, 32, 39, 40, 41] Fns.mixed (by decide +kernel) ?_
    simp [h1, h5, h6, h7, hlt, hlt', r9]
    refine (does_ok hd a).mono ?_
    rintro v G1 ⟨rfl, hd1⟩
    rw [hnext] at hd1
    simp [h1, h5, h6, h7, hlt, hlt', r9, rp, rq, recheck]
    refine (hd1.has a.p).mono ?_
    rintro v G2 ⟨rfl, rfl⟩
    simp [h1, h5, h6, h7, hlt, hlt', r9, rp, rq, recheck]
    refine (hd1.rhas a.p).mono ?_
    rintro v G2 ⟨rfl, rfl⟩
    simp [h1, h5, h6, h7, hlt, hlt', r9, rp, rq, recheck, eqEv]
    refine (hd1.has a.q).mono ?_
    rintro v G2 ⟨rfl, rfl⟩
    simp [h1, h5, h6, h7, hlt, hlt', r9, rp, rq, recheck]
    refine (hd1.rhas a.q).mono ?_
    rintro v G2 ⟨rfl, rfl⟩
    simp [h1, h5, h6, h7, hlt, hlt', r9, rp, rq, recheck, eqEv, hw1]
    exact ⟨⟨hc'.symm, i + 1, by simp, by omega, hd1⟩, by omega⟩
  · obtain rfl : i = A.length := by omega
    rw [List.take_length] at hd
    simp [h1, h5, h6, h7, lens']
    refine (stands_ok hd).mono ?_
    rintro v G1 rfl
    simp
end Go.Proofs.Ytffmpomidfickaa.Tr
