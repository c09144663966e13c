/- A name's words, and the name of any text, are the document's: what the law's code computes. -/
import Derived.Test.YtgdmalobagncpaaDoorIdRefP
import Derived.Test.YtgdmalobagncpaaDoorIdEq
namespace Go.Proofs.YtgdmalobagncpaaDoor.Id
open Go Go.RowKit Am
set_option maxRecDepth 100000
set_option linter.unusedSimpArgs false
set_option linter.unusedVariables false
attribute [-simp] Am.binEv Am.intBin Am.read1
attribute [local simp] binEv_lss binEv_leq binEv_gtr binEv_geq binEv_eql binEv_neq binEv_add binEv_sub binEv_mul binEv_shr58 read1_ro read1_mu binEv_seql binEv_sneq
variable {R : Ro}
theorem wordsP_one {a b c : Int} {v v' : AV} (h : wordsP a b c v) (h' : wordsP a b c v') : ∃ w ok, v = .tuple [.str w, .bool ok] ∧ v' = .tuple [.str w, .bool ok] := by
  rcases h with ⟨h1, h2, h3, rfl⟩ | ⟨h1, rfl⟩
  · rcases h' with ⟨_, _, _, rfl⟩ | ⟨h4, _⟩
    · exact ⟨_, _, rfl, rfl⟩
    · exact absurd ⟨h1, h2, h3⟩ h4
  · rcases h' with ⟨h4, h5, h6, _⟩ | ⟨h4, rfl⟩
    · exact absurd ⟨h4, h5, h6⟩ h1
    · exact ⟨_, _, rfl, rfl⟩
theorem wordsP_shape {a b c : Int} {v : AV} (h : wordsP a b c v) : ∃ w ok, v = .tuple [.str w, .bool ok] := by
  rcases h with ⟨h1, h2, h3, rfl⟩ | ⟨h1, rfl⟩
  · exact ⟨_, _, rfl⟩
  · exact ⟨_, _, rfl⟩
theorem parseP_shape {s : List UInt8} {v : AV} (h : parseP s v) : ∃ a b c ok, v = .tuple [.agg [.int .i64 a, .int .i64 b, .int .i64 c], .bool ok] := by
  rcases h with ⟨a, b, c, _, _, _, _, rfl⟩ | ⟨_, rfl⟩
  · exact ⟨_, _, _, _, rfl⟩
  · exact ⟨_, _, _, _, rfl⟩
theorem parse_ref {s : List UInt8} {v v' : AV} (h : parseP s v) (h' : refQ s v') : ∃ a b c ok, v = .tuple [.agg [.int .i64 a, .int .i64 b, .int .i64 c], .bool ok] ∧ v' = .tuple [.int .i64 a, .int .i64 b, .int .i64 c, .bool ok] := by
  unfold refQ at h'
  cases hF : refF s with
  | none =>
    rw [hF] at h'
    dsimp only at h'
    rcases h with ⟨a, b, c, ha, hb, hc, rfl, _⟩ | ⟨_, rfl⟩
    · obtain ⟨an, rfl⟩ : ∃ n : Nat, a = n := ⟨a.toNat, by have := ha.1; omega⟩
      obtain ⟨bn, rfl⟩ : ∃ n : Nat, b = n := ⟨b.toNat, by have := hb.1; omega⟩
      obtain ⟨cn, rfl⟩ : ∃ n : Nat, c = n := ⟨c.toNat, by have := hc.1; omega⟩
      rw [refF_of (by have := ha.2; omega) (by have := hb.2; omega) (by have := hc.2; omega)] at hF
      cases hF
    · exact ⟨0, 0, 0, false, rfl, h'⟩
  | some x =>
    obtain ⟨a, b, c⟩ := x
    rw [hF] at h'
    dsimp only at h'
    obtain ⟨ha, hb, hc, hs⟩ := refF_some hF
    have ma : mayI (a : Int) := ⟨by omega, by omega⟩
    have mb : mayI (b : Int) := ⟨by omega, by omega⟩
    have mc : mayI (c : Int) := ⟨by omega, by omega⟩
    rcases h with ⟨a', b', c', ha', hb', hc', hs', rfl⟩ | ⟨hn, _⟩
    · obtain ⟨rfl, rfl, rfl⟩ := words_inj ma mb mc ha' hb' hc' (hs.symm.trans hs')
      exact ⟨_, _, _, true, rfl, h'⟩
    · exact absurd hs (hn _ _ _ ma mb mc)
set_option maxHeartbeats 4000000 in
theorem law_words (L : Lb R) (haw : ∀ H, ACalls Tryd.prog R 11 [] H fun v H' => H' = H ∧ v = .bool true) (a b c : Int) (s : List UInt8) :
    ACalls Tryd.prog R 4 [.agg [.int .i64 a, .int .i64 b, .int .i64 c], .str s] [] fun v _ => v = .bool true := by
  refine ACalls.of_wpE Fns.ok4 (by simp [Fns.a4]) ?_
  simp [Fns.a4, AV.oneCell]
  refine (haw _).mono ?_
  rintro v H' ⟨rfl, rfl⟩
  by_cases hl : s.length ≤ 2000
  · have hl1 : ¬ (s.length : Int) > 2000 := by omega
    have hl2 : ¬ 2000 < s.length := by omega
    have hl3 : ¬ (2000 : Int) < (s.length : Int) := by omega
    simp [hl1, hl2, hl3]
    refine (words L a b c _).mono ?_
    rintro v1 H1 ⟨hv1, E1, rfl⟩
    obtain ⟨w, ok, rfl⟩ := wordsP_shape hv1
    simp
    refine (rwords a b c _).mono ?_
    rintro v2 H2 ⟨hv2, E2, rfl⟩
    obtain ⟨w', ok', e1, rfl⟩ := wordsP_one hv1 hv2
    simp only [AV.tuple.injEq, List.cons.injEq, AV.str.injEq, AV.bool.injEq, and_true] at e1
    obtain ⟨rfl, rfl⟩ := e1
    simp
    refine (parse L s (by omega) _).mono ?_
    rintro v3 H3 ⟨hv3, E3, hH3⟩
    obtain ⟨pa, pb, pc, pok, rfl⟩ := parseP_shape hv3
    have hwl := writeN_last0 H3 (old := [.int .i64 0, .int .i64 0, .int .i64 0]) (new := [.int .i64 pa, .int .i64 pb, .int .i64 pc]) 23 rfl rfl
    simp [AV.oneCell, hwl]
    refine (rparse s hl _).mono ?_
    rintro v4 H4 ⟨hv4, rfl⟩
    obtain ⟨a', b', c', ok', e1, rfl⟩ := parse_ref hv3 hv4
    simp only [AV.tuple.injEq, AV.agg.injEq, List.cons.injEq, AV.int.injEq, AV.bool.injEq, and_true, true_and] at e1
    obtain ⟨⟨rfl, rfl, rfl⟩, rfl⟩ := e1
    have heq := eqP pa pb pc pa pb pc
    simp only [fieldsP] at heq
    simp only [eqEv] at heq
    have hf : fillA [(0, 1), (1, 1), (2, 1)] [AV.int .i64 0, .int .i64 0, .int .i64 0] [(0, AV.int .i64 pa), (1, .int .i64 pb), (2, .int .i64 pc)] = some [AV.int .i64 pa, .int .i64 pb, .int .i64 pc] := rfl
    simp [hf, heq]
  · have hl1 : (s.length : Int) > 2000 := by omega
    have hl3 : (2000 : Int) < (s.length : Int) := by omega
    simp [hl1, hl3]
end Go.Proofs.YtgdmalobagncpaaDoor.Id
