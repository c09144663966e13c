/- Ranks and sets make the document's lattice: what the law's code computes. -/
import Derived.Test.YtjglohfkpigdfaaDoorKnown
import Derived.Test.YtjglohfkpigdfaaDoorLatTells
import Derived.Test.YtjglohfkpigdfaaDoorLatRRank
namespace Go.Proofs.YtjglohfkpigdfaaDoor.Ranks
open Go Go.RowKit Am Latt
set_option maxRecDepth 100000
set_option linter.unusedSimpArgs false
set_option linter.unusedVariables false
attribute [-simp] Am.binEv Am.intBin Am.read1
attribute [local simp] binEv_lss binEv_leq binEv_gtr binEv_geq binEv_eql binEv_neq binEv_add binEv_sub binEv_mul binEv_shr58 read1_ro read1_mu
theorem ranks (r s a b : Int) : ACalls Tryd.prog Laid.ro 5 [.int .i64 r, .int .i64 s, .int .i64 a, .int .i64 b] [] fun v _ => v = .bool true := by
  refine ACalls.of_wpE Fns.ok5 (by simp [Fns.a5]) ?_
  simp [Fns.a5]
  refine (Nobody.awake _).mono ?_
  rintro v H' ⟨rfl, rfl⟩
  simp
  by_cases hm : RankMay r s
  · have g : GoodT (rankT r.toNat (r.toNat * 2 ^ s.toNat)) := rank_good (by have := hm.1; omega) hm.2.2.2.2
    have hlen := rankT_len r.toNat (r.toNat * 2 ^ s.toNat)
    have hlo := g.lo
    rw [hlen] at hlo
    refine (rank_sure Known.hasTab _ r s hm).mono ?_
    rintro v H1 ⟨k1, l, p, q, rfl, hin, _, _, _⟩
    have hll := (List.getElem?_eq_some_iff.1 hin.box).1
    simp
    refine (rrank_ok H1 r s hm).mono ?_
    rintro v H2 ⟨k2, ⟨tl, to, tc, rfl⟩, ht⟩
    have S := (hin.keeps k2).st
    have ht2 := ht (H2.set l .dead) (fun i h1 h2 => by rw [List.getElem?_set, if_neg (by omega)])
    generalize rankT r.toNat (r.toNat * 2 ^ s.toNat) = T at *
    generalize r.toNat * 2 ^ s.toNat = n at *
    have hz : ¬ ((n : Int) = 0) := by omega
    have hz' : ¬ n = 0 := by omega
    simp [hz, hz', eqEv]
    refine (tells_ok Known.hasTab g S ht2 a b).mono ?_
    rintro v H3 rfl
    simp
  · refine (rank_no Known.hasTab _ r s hm).mono ?_
    rintro v H1 ⟨k1, rfl⟩
    simp
    refine (rrank_no H1 r s hm).mono ?_
    rintro v H2 ⟨rfl, rfl⟩
    simp [eqEv]
theorem ranksW (r : Int) (_ : (Lit.int .i64 r).wf = true) (s : Int) (_ : (Lit.int .i64 s).wf = true) (a : Int) (_ : (Lit.int .i64 a).wf = true) (b : Int) (_ : (Lit.int .i64 b).wf = true) :
    ACalls Tryd.prog Laid.ro 5 [.int .i64 r, .int .i64 s, .int .i64 a, .int .i64 b] [] fun v _ => v = .bool true := ranks r s a b
end Go.Proofs.YtjglohfkpigdfaaDoor.Ranks
