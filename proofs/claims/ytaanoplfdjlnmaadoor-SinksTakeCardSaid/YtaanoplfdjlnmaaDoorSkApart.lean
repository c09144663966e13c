/- What a sink takes of a label hangs on that label's writes alone: what the law's code computes. -/
import Derived.Test.YtaanoplfdjlnmaaDoorSkRel
namespace Go.Proofs.YtaanoplfdjlnmaaDoor.Sk
open Go Go.RowKit Am Latt
set_option maxRecDepth 100000
set_option linter.unusedSimpArgs false
set_option linter.unusedVariables false
attribute [-simp] Am.binEv Am.intBin Am.read1
attribute [local simp] binEv_lss binEv_leq binEv_gtr binEv_geq binEv_eql binEv_neq binEv_add binEv_sub binEv_mul binEv_shr58 read1_ro read1_mu
variable {R : Ro}
structure Two (H : AH) (sa sb l p q : Nat) (T : List (List Bool)) (Sa Sb : List SK) (k : Nat) : Prop where
  lat : LatIn H l p q (upT T) (dnT T)
  ats : ∃ rva Ca csa msa rvb Cb csb msb, At H sa l rva Ca Sa csa msa ∧ At H sb l rvb Cb Sb csb msb ∧ ∀ j, Own sa rva csa msa j → ¬ Own sb rvb csb msb j
  ga : Good Sa
  gb : Good Sb
  ka : Short Sa k
  kb : Short Sb k
theorem Two.swap {H : AH} {sa sb l p q k : Nat} {T : List (List Bool)} {Sa Sb : List SK} (h : Two H sa sb l p q T Sa Sb k) : Two H sb sa l p q T Sb Sa k := by
  obtain ⟨rva, Ca, csa, msa, rvb, Cb, csb, msb, hA, hB, hd⟩ := h.ats
  exact ⟨h.lat, ⟨_, _, _, _, _, _, _, _, hB, hA, fun j hb ha => hd j ha hb⟩, h.gb, h.ga, h.kb, h.ka⟩
/-- A write to the first. -/
theorem Two.write {H : AH} {sa sb l p q k : Nat} {T : List (List Bool)} {Sa Sb : List SK} (h : Two H sa sb l p q T Sa Sb k) (g1 : 1 ≤ T.length) (g2 : T.length ≤ 64) (hk : k ≤ 100000) (a b : Int) {t : List UInt8} (ht : t.length ≤ 100) :
    ACalls Tryd.prog R 16 [.ptr (.mu sa) 0, .int .i64 a, .int .i64 b, .str t] H fun v H' => H.length ≤ H'.length ∧
      ((¬ mayF (upT T) Sa a b = 0 ∧ v = .tuple [.int .i64 0, .int .i64 (mayF (upT T) Sa a b)] ∧ Two H' sa sb l p q T Sa Sb k) ∨
       (mayF (upT T) Sa a b = 0 ∧ ∃ (an : Nat) (x : SK), a = an ∧ Sa[an]? = some x ∧ v = .tuple [.int .i64 (takeN x b t), .int .i64 0] ∧ Two H' sa sb l p q T (Sa.set an (takeK x b t)) Sb (k + 100))) := by
  obtain ⟨rva, Ca, csa, msa, rvb, Cb, csb, msb, hA, hB, hd⟩ := h.ats
  refine (write_at hA (h.lat.at g1 g2) a b t h.ga (fun x hx => by have := h.ka x hx; omega)).mono ?_
  rintro v H' (⟨hm, rfl, rfl⟩ | ⟨hm, an, x, rfl, hx, rfl, C', cs', hA', hlen, hown, hfr⟩)
  · exact ⟨Nat.le_refl _, .inl ⟨hm, rfl, h⟩⟩
  · refine ⟨hlen, .inr ⟨hm, an, x, rfl, hx, rfl, ?_, ⟨_, _, _, _, _, _, _, _, hA', hB.frame fun j hj => hfr j (hB.lt hj) fun ha => hd j ha hj, fun j hj hb => ?_⟩, h.ga.take hx b t, h.gb, h.ka.take hx b ht, fun y hy => by have := h.kb y hy; omega⟩⟩
    · exact h.lat.frame fun i hi => hfr i (lat_lt h.lat i hi) (lat_off hA h.lat i hi)
    · rcases hown j hj with ha | ha
      · exact hd j ha hb
      · have := hB.lt hb; omega
theorem Two.left {H : AH} {sa sb l p q k : Nat} {T : List (List Bool)} {Sa Sb : List SK} (h : Two H sa sb l p q T Sa Sb k) (g1 : 1 ≤ T.length) (g2 : T.length ≤ 64) (a b : Int) :
    ACalls Tryd.prog R 17 [.ptr (.mu sa) 0, .int .i64 a, .int .i64 b] H fun v H' => v = .int .i64 (leftF (upT T) Sa a b) ∧ H' = H := by
  obtain ⟨rva, Ca, csa, msa, rvb, Cb, csb, msb, hA, hB, hd⟩ := h.ats
  exact left_at hA (h.lat.at g1 g2) a b h.ga
theorem Two.content {H : AH} {sa sb l p q k : Nat} {T : List (List Bool)} {Sa Sb : List SK} (h : Two H sa sb l p q T Sa Sb k) (a : Int) :
    ACalls Tryd.prog R 18 [.ptr (.mu sa) 0, .int .i64 a] H fun v H' => v = .str (contentF Sa a) ∧ H' = H := by
  obtain ⟨rva, Ca, csa, msa, rvb, Cb, csb, msb, hA, hB, hd⟩ := h.ats
  exact content_at hA a
end Go.Proofs.YtaanoplfdjlnmaaDoor.Sk
