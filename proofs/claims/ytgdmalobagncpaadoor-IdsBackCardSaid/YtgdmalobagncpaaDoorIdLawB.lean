/- Parse of Words is the name, Words of Parse the text: what the law's code computes. -/
import Derived.Test.YtgdmalobagncpaaDoorIdLawW
namespace Go.Proofs.YtgdmalobagncpaaDoor.Id
open Go Go.RowKit Am
set_option maxRecDepth 100000
set_option linter.unusedSimpArgs false
set_option linter.unusedVariables false
attribute [-simp] Am.binEv Am.intBin Am.read1
attribute [local simp] binEv_lss binEv_leq binEv_gtr binEv_geq binEv_eql binEv_neq binEv_add binEv_sub binEv_mul binEv_shr58 read1_ro read1_mu binEv_seql binEv_sneq
variable {R : Ro}
theorem empty_none {v : AV} (h : parseP [] v) : v = .tuple [.agg [.int .i64 0, .int .i64 0, .int .i64 0], .bool false] := by
  rcases h with ⟨a, b, c, _, _, _, h, _⟩ | ⟨_, rfl⟩
  · simp [wordsF] at h
  · rfl
theorem parse_words {a b c : Int} {v : AV} (ha : mayI a) (hb : mayI b) (hc : mayI c) (h : parseP (wordsF a b c) v) : v = .tuple [.agg [.int .i64 a, .int .i64 b, .int .i64 c], .bool true] := by
  rcases h with ⟨a', b', c', ha', hb', hc', h, rfl⟩ | ⟨hn, _⟩
  · obtain ⟨rfl, rfl, rfl⟩ := words_inj ha hb hc ha' hb' hc' h
    rfl
  · exact absurd rfl (hn _ _ _ ha hb hc)
theorem words_len {a b c : Int} (ha : mayI a) (hb : mayI b) (hc : mayI c) : (wordsF a b c).length ≤ 100 := by
  have h1 := itoa_len ha
  have h2 := itoa_len hb
  have h3 := itoa_len hc
  simp [wordsF]
  omega
theorem fill3 (a b c : Int) : fillA [(0, 1), (1, 1), (2, 1)] [AV.int .i64 0, .int .i64 0, .int .i64 0] [(0, AV.int .i64 a), (1, .int .i64 b), (2, .int .i64 c)] = some [AV.int .i64 a, .int .i64 b, .int .i64 c] := rfl
theorem fill0 : fillA [(0, 1), (1, 1), (2, 1)] [AV.int .i64 0, .int .i64 0, .int .i64 0] [] = some [AV.int .i64 0, .int .i64 0, .int .i64 0] := rfl
set_option maxHeartbeats 4000000 in
theorem law_back (L : Lb R) (haw : ∀ H, ACalls Tryd.prog R 11 [] H fun v H' => H' = H ∧ v = .bool true) (a b c a2 b2 c2 : Int) (s : List UInt8) :
    ACalls Tryd.prog R 7 [.agg [.int .i64 a, .int .i64 b, .int .i64 c], .agg [.int .i64 a2, .int .i64 b2, .int .i64 c2], .str s] [] fun v _ => v = .bool true := by
  refine ACalls.of_wpE Fns.ok7 (by simp [Fns.a7]) ?_
  simp [Fns.a7, AV.oneCell]
  refine (haw _).mono ?_
  rintro v H' ⟨rfl, rfl⟩
  by_cases hl : s.length ≤ 2000
  · have hl1 : ¬ (s.length : Int) > 2000 := by omega
    have hl2 : ¬ 2000 < s.length := by omega
    have hl3 : ¬ (2000 : Int) < (s.length : Int) := by omega
    simp [hl1, hl2, hl3]
    refine (words L a b c _).mono ?_
    rintro v1 H1 ⟨hv1, E1, rfl⟩
    obtain ⟨w, ok, rfl⟩ := wordsP_shape hv1
    simp
    refine (words L a2 b2 c2 _).mono ?_
    rintro v2 H2 ⟨hv2, E2, rfl⟩
    obtain ⟨x, is, rfl⟩ := wordsP_shape hv2
    have hwl : w.length ≤ 2100 := by
      rcases hv1 with ⟨ha, hb, hc, e⟩ | ⟨_, e⟩
      · cases e; have := words_len ha hb hc; omega
      · cases e; simp
    simp
    refine (parse L w hwl _).mono ?_
    rintro v3 H3 ⟨hv3, E3, hH3⟩
    have p0 : H3[0]? = some (.cells [.int .i64 a, .int .i64 b, .int .i64 c] 23) := by rw [hH3]; simp
    have p1 : H3[1]? = some (.cells [.int .i64 a2, .int .i64 b2, .int .i64 c2] 23) := by rw [hH3]; simp
    have hH3l : 2 ≤ H3.length := by rw [hH3]; simp
    clear hH3
    have hq1 : ∀ o : AO, (H3 ++ [o])[0]? = some (.cells [.int .i64 a, .int .i64 b, .int .i64 c] 23) := fun o => by rw [List.getElem?_append_left (by omega)]; exact p0
    have hq2 : ∀ o : AO, (H3 ++ [o])[1]? = some (.cells [.int .i64 a2, .int .i64 b2, .int .i64 c2] 23) := fun o => by rw [List.getElem?_append_left (by omega)]; exact p1
    have hq1' : ∀ (o : AO) h, (H3 ++ [o])[0]'h = .cells [.int .i64 a, .int .i64 b, .int .i64 c] 23 := fun o h => by have := hq1 o; rw [List.getElem?_eq_getElem h] at this; exact Option.some.inj this
    have hq2' : ∀ (o : AO) h, (H3 ++ [o])[1]'h = .cells [.int .i64 a2, .int .i64 b2, .int .i64 c2] 23 := fun o h => by have := hq2 o; rw [List.getElem?_eq_getElem h] at this; exact Option.some.inj this
    have heq0 := eqP 0 0 0 0 0 0
    simp only [fieldsP] at heq0
    simp only [eqEv] at heq0
    have heq := eqP a b c a b c
    simp only [fieldsP] at heq
    simp only [eqEv] at heq
    have heq2 := eqP a b c a2 b2 c2
    simp only [fieldsP] at heq2
    simp only [eqEv] at heq2
    rcases hv1 with ⟨ha, hb, hc, e⟩ | ⟨hn, e⟩
    case' inr =>
      simp only [AV.tuple.injEq, List.cons.injEq, AV.str.injEq, AV.bool.injEq, and_true] at e
      obtain ⟨rfl, rfl⟩ := e
      obtain rfl := empty_none hv3
      have hw3 := writeN_last0 H3 (old := [.int .i64 0, .int .i64 0, .int .i64 0]) (new := [.int .i64 0, .int .i64 0, .int .i64 0]) 23 rfl rfl
      simp [AV.oneCell, hw3]
    case' inl =>
      simp only [AV.tuple.injEq, List.cons.injEq, AV.str.injEq, AV.bool.injEq, and_true] at e
      obtain ⟨rfl, rfl⟩ := e
      obtain rfl := parse_words ha hb hc hv3
      have hw3 := writeN_last0 H3 (old := [.int .i64 0, .int .i64 0, .int .i64 0]) (new := [.int .i64 a, .int .i64 b, .int .i64 c]) 23 rfl rfl
      rcases hv2 with ⟨ha2, hb2, hc2, e⟩ | ⟨hn2, e⟩
      case' inr =>
        simp only [AV.tuple.injEq, List.cons.injEq, AV.str.injEq, AV.bool.injEq, and_true] at e
        obtain ⟨rfl, rfl⟩ := e
        simp [AV.oneCell, hw3, hq1, hq2, hq1', hq2', heq]
      case' inl =>
        simp only [AV.tuple.injEq, List.cons.injEq, AV.str.injEq, AV.bool.injEq, and_true] at e
        obtain ⟨rfl, rfl⟩ := e
        have hiff : (wordsF a b c = wordsF a2 b2 c2) ↔ (a = a2 ∧ b = b2 ∧ c = c2) := ⟨fun h => words_inj ha hb hc ha2 hb2 hc2 h, fun ⟨e1, e2, e3⟩ => by rw [e1, e2, e3]⟩
        by_cases hs : a = a2 ∧ b = b2 ∧ c = c2
        case' pos =>
          have hw := hiff.2 hs
          rw [decide_eq_true hs] at heq2
          simp [AV.oneCell, hw3, hq1, hq2, hq1', hq2', heq, heq2, hw]
        case' neg =>
          have hw : ¬ wordsF a b c = wordsF a2 b2 c2 := fun h => hs (hiff.1 h)
          rw [decide_eq_false hs] at heq2
          simp [AV.oneCell, hw3, hq1, hq2, hq1', hq2', heq, heq2, hw]
    all_goals
      refine (parse L s (by omega) _).mono ?_
      rintro v5 H5 ⟨hv5, E5, hH5⟩
      clear hH5
      rcases hv5 with ⟨a', b', c', ma, mb, mc, hs', rfl⟩ | ⟨hno, rfl⟩
      · have hw5 := writeN_last0 H5 (old := [.int .i64 0, .int .i64 0, .int .i64 0]) (new := [.int .i64 a', .int .i64 b', .int .i64 c']) 23 rfl rfl
        simp [AV.oneCell, hw5]
        refine (words L a' b' c' _).mono ?_
        rintro v6 H6 ⟨hv6, E6, hH6⟩
        rcases hv6 with ⟨_, _, _, rfl⟩ | ⟨hn6, _⟩
        · simp [hs']
        · exact absurd ⟨ma, mb, mc⟩ hn6
      · have hw5 := writeN_last0 H5 (old := [.int .i64 0, .int .i64 0, .int .i64 0]) (new := [.int .i64 0, .int .i64 0, .int .i64 0]) 23 rfl rfl
        simp [AV.oneCell, hw5, fill0, heq0]
  · have hl1 : (s.length : Int) > 2000 := by omega
    have hl3 : (2000 : Int) < (s.length : Int) := by omega
    simp [hl1, hl3]
end Go.Proofs.YtgdmalobagncpaaDoor.Id
