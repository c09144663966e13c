/- How great acts may be. -/
import Derived.Test.YtaanoplfdjlnmaaDoorSkNew
namespace Go.Proofs.YtaanoplfdjlnmaaDoor.Sk
open Go Go.RowKit Am Latt
set_option maxRecDepth 100000
set_option linter.unusedSimpArgs false
set_option linter.unusedVariables false
attribute [-simp] Am.binEv Am.intBin Am.read1
attribute [local simp] binEv_lss binEv_leq binEv_gtr binEv_geq binEv_eql binEv_neq binEv_add binEv_sub binEv_mul binEv_shr58 read1_ro read1_mu
variable {R : Ro}
abbrev Act := Int × Int × List UInt8
def Act.cells (x : Act) : List AV := [.int .i64 x.1, .int .i64 x.2.1, .str x.2.2]
theorem acts_of : ∀ {L : List (List AV)}, (∀ x ∈ L, Shape [.int .i64, .int .i64, .str] x) → ∃ A : List Act, L = A.map Act.cells
  | [], _ => ⟨[], rfl⟩
  | x :: L, h => by
    obtain ⟨P, rfl⟩ := acts_of (fun y hy => h y (List.mem_cons_of_mem _ hy))
    obtain ⟨v, r, h1, ⟨z, rfl, _⟩, v2, r2, h2, ⟨z2, rfl, _⟩, v3, r3, h3, ⟨t, rfl, _⟩, h4⟩ := h x (List.mem_cons_self ..)
    cases (show r3 = [] from h4)
    subst h3 h2 h1
    exact ⟨(z, z2, t) :: P, rfl⟩
/-- Acts, as they lie there. -/
def Acts (R : Ro) (a : AV) (A : List Act) : Prop := Sl R 3 a (A.map Act.cells)
theorem Acts.len {a : AV} {A : List Act} (h : Acts R a A) : (a = .nilslice ∧ A.length = 0) ∨ ∃ b off cap, a = .slice (.ro b) off A.length (.known cap) := by
  rcases h with ⟨h, hL⟩ | ⟨b, off, cap, h, _⟩
  · exact .inl ⟨h, by simpa using hL⟩
  · exact .inr ⟨b, off, cap, by simpa using h⟩
theorem Acts.at {a : AV} {A : List Act} (h : Acts R a A) {i : Nat} (hi : i < A.length) : ∃ b off cap, a = .slice (.ro b) off A.length (.known cap) ∧ R b (off + i * 3) = some (.int .i64 A[i].1) ∧ R b (off + i * 3 + 1) = some (.int .i64 A[i].2.1) ∧ R b (off + i * 3 + 2) = some (.str A[i].2.2) := by
  obtain ⟨b, off, cap, ha, hc⟩ := Sl.at h (show i < (A.map Act.cells).length by simpa using hi)
  refine ⟨b, off, cap, by simpa using ha, ?_, ?_, ?_⟩
  · exact hc 0 _ (by simp [Act.cells])
  · exact hc 1 _ (by simp [Act.cells])
  · exact hc 2 _ (by simp [Act.cells])
theorem great_ok (H : AH) {a : AV} {A : List Act} (h : Acts R a A) : ACalls Tryd.prog R 8 [a] H fun v H' => H' = H ∧ ∃ b, v = .bool b ∧ (b = false → A.length ≤ 120 ∧ ∀ x ∈ A, x.2.2.length ≤ 100) := by
  have hlen := h.len
  refine ACalls.of_wpE Fns.ok8 (by simp [Fns.a8]) ?_
  simp [Fns.a8]
  by_cases hbig : 120 < A.length
  · have hbig' : (120 : Int) < (A.length : Int) := by omega
    rcases hlen with ⟨rfl, h0⟩ | ⟨b, off, cap, rfl⟩
    · omega
    · simp [hbig, hbig']
  have hbig' : ¬ (120 : Int) < (A.length : Int) := by omega
  refine (?_ : _ → _) hlen
  rintro (⟨ha, hP0⟩ | ⟨b0, off0, cap0, ha⟩) <;>
  · simp [ha, hbig, hbig']
    refine AWp.loop (fun e H' => H' = H ∧ e 0 = a ∧ ∃ i : Nat, e 3 = .int .i64 i ∧ i ≤ A.length ∧ ∀ x ∈ A.take i, x.2.2.length ≤ 100) (fun e _ => match e 3 with | .int _ i => ((A.length : Int) - i).toNat | _ => 0) ⟨rfl, by rw [ha]; rfl, 0, rfl, by omega, by simp⟩ ?_
    rintro e H' ⟨rfl, h0, i, h3, hi, hok⟩
    refine wpE_sound _ ?_
    by_cases hlt : i < A.length
    · obtain ⟨b, off, cap, ha', r0, r1, r2⟩ := h.at hlt
      have hlt' : (i : Int) < (A.length : Int) := by omega
      have hw1 := i64_small ((i : Int) + 1) (by omega) (by omega)
      rw [ha'] at h0
      by_cases hb : 100 < A[i].2.2.length
      · have hb' : (100 : Int) < (A[i].2.2.length : Int) := by omega
        simp [h0, h3, hlt, hlt', r2, hb, hb']
      · have hb' : ¬ (100 : Int) < (A[i].2.2.length : Int) := by omega
        simp [h0, h3, hlt, hlt', r2, hb, hb', hw1]
        refine ⟨⟨by rw [ha'], i + 1, by simp, by omega, fun x1 x2 x3 hx => ?_⟩, by omega⟩
        rw [List.take_add_one, List.getElem?_eq_getElem hlt] at hx
        rcases List.mem_append.1 hx with hx | hx
        · exact hok _ hx
        · simp at hx
          rw [← hx] at hb
          simpa using hb
    · obtain rfl : i = A.length := by omega
      have hnl : ¬ (A.length : Int) < 0 := by omega
      simp [h0, ha, h3, hnl]
      exact ⟨by omega, fun x1 x2 x3 hx => hok (x1, x2, x3) (by simpa using hx)⟩
end Go.Proofs.YtaanoplfdjlnmaaDoor.Sk
