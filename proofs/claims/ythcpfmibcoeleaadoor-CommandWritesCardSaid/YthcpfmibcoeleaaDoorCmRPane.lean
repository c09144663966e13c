/- The document's number, text: what its code computes. -/
import Derived.Test.YthcpfmibcoeleaaDoorCmTakes
import Derived.Test.YthcpfmibcoeleaaDoorCmDots
namespace Go.Proofs.YthcpfmibcoeleaaDoor.Cm
open Go Go.RowKit Am Go.Proofs.YthcpfmibcoeleaaDoor.Id
set_option maxRecDepth 100000
set_option linter.unusedSimpArgs false
set_option linter.unusedVariables false
attribute [-simp] Am.binEv Am.intBin Am.read1
attribute [local simp] binEv_lss binEv_leq binEv_gtr binEv_geq binEv_eql binEv_neq binEv_add binEv_sub binEv_mul binEv_shr58 read1_ro read1_mu binEv_seql binEv_sneq
variable {R : Ro}
theorem all_take_succ {p : UInt8 → Bool} {s : List UInt8} {i : Nat} {b : UInt8} (hb : s[i]? = some b) (h : (s.take i).all p = true) (hp : p b = true) : (s.take (i + 1)).all p = true := by
  rw [List.take_add_one, hb, List.all_append, h]
  simp [hp]
theorem all_false {p : UInt8 → Bool} {s : List UInt8} {i : Nat} {b : UInt8} (hb : s[i]? = some b) (hp : p b = false) : s.all p = false := by
  cases h : s.all p with
  | false => rfl
  | true => rw [List.all_eq_true.1 h b (List.mem_of_getElem? hb)] at hp; cases hp
theorem rfine (s : List UInt8) (hs : s.length ≤ 100000) (H : AH) : ACalls Tryd.prog R 28 [.str s] H fun v H' => H' = H ∧ v = .bool (fineF s) := by
  refine ACalls.of_wpE Fns.ok28 (by simp [Fns.a28]) ?_
  simp [Fns.a28]
  refine AWp.mono (Q := fun ex e H1 => H1 = H ∧ ((ex = .exit 0 ∧ e 0 = .str s ∧ allB s = true) ∨ (ex = .ret ∧ e 2 = .bool false ∧ allB s = false)))
    (AWp.loop (fun e H1 => H1 = H ∧ e 0 = .str s ∧ ∃ i : Nat, e 3 = .int .i64 i ∧ i ≤ s.length ∧ allB (s.take i) = true)
    (fun e _ => match e 3 with | .int _ i => ((s.length : Int) - i).toNat | _ => 0) ⟨rfl, by simp, 0, by simp, by omega, by simp [allB]⟩ ?_) ?_
  · rintro e H1 ⟨rfl, h0, i, h3, hi, hall⟩
    refine wpE_sound _ ?_
    by_cases hl : i < s.length
    · have hl' : (i : Int) < (s.length : Int) := by omega
      have hw1 : IntKind.i64.wrap ((i : Int) + 1) = (i : Int) + 1 := i64_ok _ (by omega) (by omega)
      obtain ⟨b, hb⟩ : ∃ b, s[i]? = some b := ⟨_, List.getElem?_eq_getElem hl⟩
      have hb' : ∀ h, s[i]'h = b := fun h => by rw [List.getElem?_eq_getElem h] at hb; exact Option.some.inj hb
      cases hf : fineB b with
      | true =>
        have hf2 := hf
        unfold fineB at hf2
        simp at hf2
        have k1 : ¬ (b.toNat : Int) < 32 := by omega
        have k2 : ¬ 126 < (b.toNat : Int) := by omega
        simp [h0, h3, hl, hl', hb', k1, k2, hw1]
        exact ⟨⟨i + 1, by omega, by omega, all_take_succ hb hall hf⟩, by omega⟩
      | false =>
        have hna : allB s = false := all_false hb hf
        unfold fineB at hf
        simp at hf
        by_cases k1 : (b.toNat : Int) < 32
        · simp [h0, h3, hl, hl', hb', k1, hna]
        · have k2 : 126 < (b.toNat : Int) := by omega
          simp [h0, h3, hl, hl', hb', k1, k2, hna]
    · obtain rfl : i = s.length := by omega
      rw [List.take_length] at hall
      simp [h0, h3, hall]
  · rintro ex e H1 ⟨rfl, ⟨rfl, h0, hall⟩ | ⟨rfl, h2, hall⟩⟩
    · by_cases h1 : 1 ≤ s.length
      · have h1' : (1 : Int) ≤ (s.length : Int) := by omega
        by_cases h2 : s.length ≤ 200
        · have h2' : (s.length : Int) ≤ 200 := by omega
          simp [h0, h1', h2', fineF, h1, h2, hall]
        · have h2' : ¬ (s.length : Int) ≤ 200 := by omega
          simp [h0, h1', h2', fineF, h1, h2, hall]
      · have h1' : ¬ (1 : Int) ≤ (s.length : Int) := by omega
        simp [h0, h1', fineF, h1]
    · simp [h2, fineF, hall]
def nA : AC := Fns.a26.body.snd.snd.snd.fst
def nR : AC := Fns.a26.body.snd.snd.snd.snd
theorem body26 : Fns.a26.body = .seq Fns.a26.body.fst (.seq Fns.a26.body.snd.fst (.seq Fns.a26.body.snd.snd.fst (.seq nA nR))) := rfl
/-- The sign, and what is behind it. -/
def signOf (s : List UInt8) : Int × List UInt8 := match s with
  | [] => (1, [])
  | c :: r => if c = 45 then (-1, r) else (1, c :: r)
def numS (x : Int × List UInt8) : Option Int :=
  if x.2 = [] ∨ 10 < x.2.length ∨ (x.2.head? = some 48 ∧ (1 < x.2.length ∨ x.1 < 0)) ∨ x.2.all isD = false then none else some (x.1 * valL x.2)
theorem numR_sign (s : List UInt8) : numR s = numS (signOf s) := by
  unfold numR signOf
  cases s with
  | nil => rfl
  | cons c r =>
    dsimp only
    by_cases hc : c = 45
    · rw [if_pos hc, if_pos hc]
      unfold numS
      dsimp only
      by_cases h : r = [] ∨ 10 < r.length ∨ r.head? = some 48 ∨ r.all isD = false
      · rw [if_pos h, if_pos]
        rcases h with h | h | h | h
        · exact .inl h
        · exact .inr (.inl h)
        · exact .inr (.inr (.inl ⟨h, .inr (by decide)⟩))
        · exact .inr (.inr (.inr h))
      · rw [if_neg h, if_neg]
        · congr 1; omega
        · rintro (h' | h' | ⟨h', _⟩ | h')
          · exact h (.inl h')
          · exact h (.inr (.inl h'))
          · exact h (.inr (.inr (.inl h')))
          · exact h (.inr (.inr (.inr h')))
    · rw [if_neg hc, if_neg hc]
      unfold numS
      dsimp only
      by_cases h : 10 < (c :: r).length ∨ (c = 48 ∧ r ≠ []) ∨ (c :: r).all isD = false
      · rw [if_pos h, if_pos]
        rcases h with h | ⟨h, h'⟩ | h
        · exact .inr (.inl h)
        · exact .inr (.inr (.inl ⟨by rw [h]; rfl, .inl (by cases r with | nil => exact absurd rfl h' | cons y ys => simp)⟩))
        · exact .inr (.inr (.inr h))
      · rw [if_neg h, if_neg]
        · congr 1; omega
        · rintro (h' | h' | ⟨h', h2⟩ | h')
          · cases h'
          · exact h (.inl h')
          · refine h (.inr (.inl ⟨by simpa using h', ?_⟩))
            rintro rfl
            rcases h2 with h2 | h2
            · simp at h2
            · exact absurd h2 (by decide)
          · exact h (.inr (.inr h'))
/-- What a word comes to. -/
def NumP (s : List UInt8) (lo hi : Int) (v : AV) : Prop := match numR s with
  | some n => v = .tuple [.int .i64 n, .bool (decide (lo ≤ n) && decide (n ≤ hi))]
  | none => v = .tuple [.int .i64 0, .bool false]
set_option maxHeartbeats 4000000 in
theorem rnumber (s : List UInt8) (hs : s.length ≤ 100000) (lo hi : Int) (H : AH) : ACalls Tryd.prog R 26 [.str s, .int .i64 lo, .int .i64 hi] H fun v H' => H' = H ∧ NumP s lo hi v := by
  refine ACalls.of_body Fns.ok26 (by simp [Fns.a26]) ?_
  rw [body26]
  refine AWp.seq (wpE_sound _ ?_)
  simp [Fns.a26, AC.fst, AC.snd]
  refine AWp.seq (wpE_sound _ ?_)
  simp [Fns.a26, AC.fst, AC.snd]
  refine AWp.seq (wpE_sound _ ?_)
  simp [Fns.a26, AC.fst, AC.snd]
  refine AWp.seq (AWp.mono (Q := fun ex e H1 => ex = .normal ∧ H1 = H ∧ e 1 = .int .i64 lo ∧ e 2 = .int .i64 hi ∧ e 8 = .int .i64 (signOf s).1 ∧ e 9 = .str (signOf s).2) (wpE_sound _ ?_) ?_)
  · cases s with
    | nil => simp [nA, Fns.a26, AC.fst, AC.snd, signOf]
    | cons c r =>
      have h1 : (0 : Int) < (r.length : Int) + 1 := by omega
      have h2 : (1 : Int) ≤ (r.length : Int) + 1 := by omega
      by_cases hc : c = 45
      · have hci : (c.toNat : Int) = 45 := by rw [hc]; rfl
        simp [nA, Fns.a26, AC.fst, AC.snd, signOf, h1, h2, hci, hc, boundEv]
      · have hci : ¬ (c.toNat : Int) = 45 := fun e => hc (by
          have e2 : c.toNat = 45 := by omega
          rw [← UInt8.ofNat_toNat (x := c), e2]; rfl)
        simp [nA, Fns.a26, AC.fst, AC.snd, signOf, h1, h2, hci, hc]
  · rintro ex e H1 ⟨rfl, rfl, h1, h2, h8, h9⟩
    have hsg : (signOf s).1 = 1 ∨ (signOf s).1 = -1 := by
      unfold signOf
      split
      · exact .inl rfl
      · split
        · exact .inr rfl
        · exact .inl rfl
    unfold NumP
    rw [numR_sign]
    generalize hX : signOf s = X at *
    obtain ⟨sg, d⟩ := X
    dsimp only at h8 h9 hsg
    refine wpE_sound _ ?_
    by_cases e0 : d = []
    · subst e0
      have hN : numS (sg, []) = none := by unfold numS; rw [if_pos (.inl rfl)]
      simp [nR, Fns.a26, AC.fst, AC.snd, h9, hN]
    · have hne : ¬ d.length = 0 := fun h => e0 (List.length_eq_zero_iff.1 h)
      have hne' : ¬ (d.length : Int) = 0 := by omega
      by_cases e1 : 10 < d.length
      · have e1' : (10 : Int) < (d.length : Int) := by omega
        have hN : numS (sg, d) = none := by unfold numS; rw [if_pos (.inr (.inl e1))]
        simp [nR, Fns.a26, AC.fst, AC.snd, h9, hN, hne, hne', e0, e1']
      · have e1' : ¬ (10 : Int) < (d.length : Int) := by omega
        have hpos : 0 < d.length := by omega
        obtain ⟨y, hy⟩ : ∃ y, d[0]? = some y := ⟨_, List.getElem?_eq_getElem hpos⟩
        have hy' : ∀ h, d[0]'h = y := fun h => by rw [List.getElem?_eq_getElem h] at hy; exact Option.some.inj hy
        have hhead : d.head? = some y := by rw [List.head?_eq_getElem?]; exact hy
        have hy48 : (y.toNat : Int) = 48 ↔ y = 48 := ⟨fun e => by
          have e2 : y.toNat = 48 := by omega
          rw [← UInt8.ofNat_toNat (x := y), e2]; rfl, fun e => by rw [e]; rfl⟩
        by_cases e2 : y = 48 ∧ (1 < d.length ∨ sg < 0)
        · have hN : numS (sg, d) = none := by unfold numS; rw [if_pos (.inr (.inr (.inl ⟨by rw [hhead, e2.1], e2.2⟩)))]
          have k0 : (y.toNat : Int) = 48 := hy48.2 e2.1
          by_cases k1 : 1 < d.length
          · have k1' : (1 : Int) < (d.length : Int) := by omega
            simp [nR, Fns.a26, AC.fst, AC.snd, h8, h9, hN, hne, hne', e0, e1', hpos, hy', k0, k1']
          · have k1' : ¬ (1 : Int) < (d.length : Int) := by omega
            have k2 : sg < 0 := by rcases e2.2 with h | h <;> omega
            simp [nR, Fns.a26, AC.fst, AC.snd, h8, h9, hN, hne, hne', e0, e1', hpos, hy', k0, k1', k2]
        · have hN : numS (sg, d) = if d.all isD = false then none else some (sg * valL d) := by
            unfold numS
            by_cases ha : d.all isD = false
            · rw [if_pos ha, if_pos (.inr (.inr (.inr ha)))]
            · rw [if_neg ha, if_neg]
              rintro (h | h | ⟨h, h'⟩ | h)
              · exact e0 h
              · exact e1 h
              · exact e2 ⟨by rw [hhead] at h; exact Option.some.inj h, h'⟩
              · exact ha h
          have hgo : ∀ Q : Prop, Q → True := fun _ _ => trivial
          have small := val_small 10 d (by omega)
          by_cases k0 : (y.toNat : Int) = 48
          case' pos =>
            have k1' : ¬ (1 : Int) < (d.length : Int) := fun h => e2 ⟨hy48.1 k0, .inl (by omega)⟩
            have k2 : ¬ sg < 0 := fun h => e2 ⟨hy48.1 k0, .inr h⟩
            simp [nR, Fns.a26, AC.fst, AC.snd, h8, h9, hne, hne', e0, e1', hpos, hy', k0, k1', k2]
          case' neg =>
            simp [nR, Fns.a26, AC.fst, AC.snd, h8, h9, hne, hne', e0, e1', hpos, hy', k0]
          all_goals
            refine AWp.mono (Q := fun ex e H2 => H2 = H1 ∧ ((ex = .exit 0 ∧ e 1 = .int .i64 lo ∧ e 2 = .int .i64 hi ∧ e 8 = .int .i64 sg ∧ e 10 = .int .i64 (valL d : Int) ∧ d.all isD = true) ∨ (ex = .ret ∧ e 6 = .int .i64 0 ∧ e 7 = .bool false ∧ d.all isD = false)))
              (AWp.loop (fun e H2 => H2 = H1 ∧ e 1 = .int .i64 lo ∧ e 2 = .int .i64 hi ∧ e 8 = .int .i64 sg ∧ e 9 = .str d ∧ ∃ i : Nat, e 11 = .int .i64 i ∧ i ≤ d.length ∧ (d.take i).all isD = true ∧ e 10 = .int .i64 (valL (d.take i) : Int))
              (fun e _ => match e 11 with | .int _ i => ((d.length : Int) - i).toNat | _ => 0) ⟨rfl, by simp [h1], by simp [h2], by simp [h8], by simp [h9], 0, by simp, by omega, by simp, by simp [valL]⟩ ?_) ?_
            · rintro e H2 ⟨rfl, h1, h2, h8, h9, i, h11, hi, hall, h10⟩
              refine wpE_sound _ ?_
              by_cases hl : i < d.length
              · have hl' : (i : Int) < (d.length : Int) := by omega
                have hw1 : IntKind.i64.wrap ((i : Int) + 1) = (i : Int) + 1 := i64_ok _ (by omega) (by omega)
                obtain ⟨b, hb⟩ : ∃ b, d[i]? = some b := ⟨_, List.getElem?_eq_getElem hl⟩
                have hb' : ∀ h, d[i]'h = b := fun h => by rw [List.getElem?_eq_getElem h] at hb; exact Option.some.inj hb
                cases hf : isD b with
                | true =>
                  have hf2 := hf
                  unfold isD at hf2
                  simp at hf2
                  have k1 : ¬ (b.toNat : Int) < 48 := by omega
                  have k2 : ¬ 57 < (b.toNat : Int) := by omega
                  have hv := val_small i (d.take i) (by rw [List.length_take]; omega) hall
                  have hv2 : 10 ^ i ≤ 10 ^ 10 := Nat.pow_le_pow_right (by omega) (by omega)
                  have w1 : IntKind.u8.wrap ((b.toNat : Int) - 48) = (b.toNat : Int) - 48 := by
                    rw [show (b.toNat : Int) - 48 = ((b.toNat - 48 : Nat) : Int) by omega]
                    exact wrap_small .u8 _ (by simp only [mx]; omega) (by simp only [neg?]; simp)
                  have w2 : IntKind.i64.wrap ((b.toNat : Int) - 48) = (b.toNat : Int) - 48 := i64_ok _ (by omega) (by omega)
                  have w3 : IntKind.i64.wrap (10 * (valL (d.take i) : Int)) = 10 * (valL (d.take i) : Int) := i64_ok _ (by omega) (by omega)
                  have w4 : IntKind.i64.wrap (10 * (valL (d.take i) : Int) + ((b.toNat : Int) - 48)) = 10 * (valL (d.take i) : Int) + ((b.toNat : Int) - 48) := i64_ok _ (by omega) (by omega)
                  simp [h1, h2, h8, h9, h10, h11, hl, hl', hb', k1, k2, w1, w2, w3, w4, hw1]
                  refine ⟨⟨i + 1, by omega, by omega, ?_, ?_⟩, by omega⟩
                  · have := all_take_succ hb hall hf
                    simpa using this
                  · rw [List.take_add_one, hb]
                    show _ = ((valL (d.take i ++ [b]) : Nat) : Int)
                    rw [val_snoc]
                    omega
                | false =>
                  have hna : d.all isD = false := all_false hb hf
                  unfold isD at hf
                  simp at hf
                  by_cases k1 : (b.toNat : Int) < 48
                  · simp [h1, h2, h8, h9, h10, h11, hl, hl', hb', k1]
                    simpa using hna
                  · have k2 : 57 < (b.toNat : Int) := by omega
                    simp [h1, h2, h8, h9, h10, h11, hl, hl', hb', k1, k2]
                    simpa using hna
              · obtain rfl : i = d.length := by omega
                rw [List.take_length] at hall h10
                simp [h1, h2, h8, h9, h10, h11]
                simpa using hall
            · rintro ex e H2 ⟨rfl, ⟨rfl, h1, h2, h8, h10, ha⟩ | ⟨rfl, h6, h7, ha⟩⟩
              · have hs10 := small ha
                have hN2 : numS (sg, d) = some (sg * valL d) := by rw [hN, ha]; rfl
                have w1 : IntKind.i64.wrap (sg * (valL d : Int)) = sg * (valL d : Int) := i64_ok _ (by rcases hsg with rfl | rfl <;> omega) (by rcases hsg with rfl | rfl <;> omega)
                rw [hN2]
                by_cases q : lo ≤ sg * (valL d : Int)
                · simp [h1, h2, h8, h10, w1, q]
                · simp [h1, h2, h8, h10, w1, q]
              · have hN2 : numS (sg, d) = none := by rw [hN, ha]; rfl
                rw [hN2]
                simp [h6, h7]
end Go.Proofs.YthcpfmibcoeleaaDoor.Cm
namespace Go.Proofs.YthcpfmibcoeleaaDoor.Cm
open Go Go.RowKit Am Go.Proofs.YthcpfmibcoeleaaDoor.Id
set_option maxRecDepth 100000
set_option linter.unusedSimpArgs false
set_option linter.unusedVariables false
attribute [-simp] Am.binEv Am.intBin Am.read1
attribute [local simp] binEv_lss binEv_leq binEv_gtr binEv_geq binEv_eql binEv_neq binEv_add binEv_sub binEv_mul binEv_shr58 read1_ro read1_mu binEv_seql binEv_sneq
variable {R : Ro}
theorem byte_drop {d : UInt8} {s : List UInt8} {a i : Nat} (h : ∀ j, a ≤ j → j < i → s[j]? ≠ some d) (hai : a ≤ i) (hi : i < s.length) (hb : s[i]? = some d) : s.drop a = (s.take i).drop a ++ d :: s.drop (i + 1) ∧ ∀ b ∈ (s.take i).drop a, b ≠ d := by
  constructor
  · have h1 : s = s.take i ++ d :: s.drop (i + 1) := by
      obtain ⟨h, e⟩ := List.getElem?_eq_some_iff.1 hb
      rw [← e, ← List.drop_eq_getElem_cons h, List.take_append_drop]
    conv => lhs; rw [h1]
    rw [List.drop_append_of_le_length (by rw [List.length_take]; omega)]
  · intro b hb2 e
    obtain ⟨k, hk⟩ := List.mem_iff_getElem?.1 hb2
    rw [List.getElem?_drop] at hk
    have hlt := (List.getElem?_eq_some_iff.1 hk).1
    rw [List.length_take] at hlt
    rw [List.getElem?_take_of_lt (by omega)] at hk
    exact h (a + k) (by omega) (by omega) (by rw [hk, e])
theorem byte_none {d : UInt8} {s : List UInt8} {a : Nat} (h : ∀ j, a ≤ j → j < s.length → s[j]? ≠ some d) : ∀ b ∈ s.drop a, b ≠ d := by
  intro b hb e
  obtain ⟨k, hk⟩ := List.mem_iff_getElem?.1 hb
  rw [List.getElem?_drop] at hk
  exact h (a + k) (by omega) (List.getElem?_eq_some_iff.1 hk).1 (by rw [hk, e])
def PaneQ (s : List UInt8) (v : AV) : Prop := ∃ (q : Int × Int × Int) (ok : Bool), v = .tuple [.agg [.int .i64 q.1, .int .i64 q.2.1, .int .i64 q.2.2], .bool ok] ∧ paneR s = if ok then some q else none
/-- The answer's place. -/
theorem res3 {H G : AH} (hk : Keeps (H ++ [.cells [.int .i64 0, .int .i64 0, .int .i64 0] 25]) G) : G[H.length]? = some (.cells [.int .i64 0, .int .i64 0, .int .i64 0] 25) ∧ H.length < G.length ∧ ∀ a b c : Int,
    writeN G H.length 0 [.int .i64 a, .int .i64 b, .int .i64 c] = some (G.set H.length (.cells [.int .i64 a, .int .i64 b, .int .i64 c] 25)) ∧ Keeps H (G.set H.length (.cells [.int .i64 a, .int .i64 b, .int .i64 c] 25)) := by
  have h1 : G[H.length]? = some (.cells [.int .i64 0, .int .i64 0, .int .i64 0] 25) := by rw [hk.2 _ (by simp)]; simp
  refine ⟨h1, (List.getElem?_eq_some_iff.1 h1).1, fun a b c => ⟨writeN_whole h1 rfl rfl, ?_⟩⟩
  exact (Keeps.trans (Keeps.app H _) hk).set (Nat.le_refl _) _
theorem fill30 : fillA [(0, 1), (1, 1), (2, 1)] [AV.int .i64 0, .int .i64 0, .int .i64 0] [] = some [AV.int .i64 0, .int .i64 0, .int .i64 0] := rfl
theorem fill33 (a b c : Int) : fillA [(0, 1), (1, 1), (2, 1)] [AV.int .i64 0, .int .i64 0, .int .i64 0] [(0, AV.int .i64 a), (1, .int .i64 b), (2, .int .i64 c)] = some [AV.int .i64 a, .int .i64 b, .int .i64 c] := rfl
set_option maxHeartbeats 8000000 in
theorem rpane (s : List UInt8) (hs : s.length ≤ 2000) (H : AH) : ACalls Tryd.prog R 27 [.str s] H fun v H' => PaneQ s v ∧ Keeps H H' := by
  refine ACalls.of_wpE Fns.ok27 (by simp [Fns.a27]) ?_
  obtain ⟨r1, r2, r3⟩ := res3 (Keeps.refl (H ++ [.cells [.int .i64 0, .int .i64 0, .int .i64 0] 25]))
  obtain ⟨r4, r5⟩ := r3 0 0 0
  cases hsc : s with
  | nil =>
    simp [Fns.a27, AV.oneCell, fill30, r4]
    exact ⟨⟨(0, 0, 0), false, rfl, rfl⟩, by simpa using r5⟩
  | cons c0 r0 =>
    have g1 : ¬ ((r0.length : Int) + 1 = 0) := by omega
    by_cases hc : c0 = 112
    · have hci : (c0.toNat : Int) = 112 := by rw [hc]; rfl
      simp [Fns.a27, AV.oneCell, g1, hci]
      rw [← hsc]
      have hlen : s.length = r0.length + 1 := by rw [hsc]; rfl
      obtain ⟨N, hN⟩ : ∃ N, numsR (dotsF (s.drop 1)) = N := ⟨_, rfl⟩
      have hPR : paneR s = threeR N := by rw [← hN, hsc]; unfold paneR; dsimp only; rw [if_pos hc]; rfl
      obtain ⟨Hb, hHb⟩ : ∃ Hb, Hb = H ++ [AO.cells [.int .i64 0, .int .i64 0, .int .i64 0] 25] := ⟨_, rfl⟩
      rw [← hHb]
      refine AWp.loop (fun e H1 => e 0 = .str s ∧ e 2 = .ptr (.mu H.length) 0 ∧ ∃ (i a : Nat) (A : List Int) (Pz : List (List UInt8)), e 6 = .int .i64 i ∧ e 5 = .int .i64 a ∧ RowOwn Hb H1 (e 4) A.length 1 3 (intsV A) ∧ N = (numsR Pz).map (A ++ ·) ∧ A.length ≤ i ∧ i ≤ s.length + 1 ∧
          ((i ≤ s.length ∧ a ≤ i ∧ Pz = dotsF (s.drop a) ∧ ∀ j, a ≤ j → j < i → s[j]? ≠ some 46) ∨ (i = s.length + 1 ∧ Pz = [])))
        (fun e _ => match e 6 with | .int _ i => ((s.length : Int) + 1 - i).toNat | _ => 0)
        ⟨by simp, by simp, 1, 1, [], dotsF (s.drop 1), by simp, by simp, by simpa [intsV] using RowOwn.nil Hb 1 3, by rw [hN]; cases N <;> simp, by simp, by omega, .inl ⟨by omega, by omega, rfl, fun j h1 h2 => by omega⟩⟩ ?_
      rintro e H1 ⟨h0, h2, i, a, A, Pz, h6, h5, hrow, hNA, hAi, hi, hcase⟩
      refine wpE_sound _ ?_
      obtain ⟨q1, q2, q3⟩ := res3 (H := H) (G := H1) (by rw [← hHb]; exact hrow.keeps)
      obtain ⟨v4, h4⟩ : ∃ v4, e 4 = v4 := ⟨_, rfl⟩
      rw [h4] at hrow
      rcases hcase with ⟨hil, hai, hPz, hnd⟩ | ⟨hie, hPz⟩
      · have hil' : (i : Int) ≤ (s.length : Int) := by omega
        have hw1 : IntKind.i64.wrap ((i : Int) + 1) = (i : Int) + 1 := i64_ok _ (by omega) (by omega)
        have b2 : (a : Int) ≤ (i : Int) := by omega
        have piece : (i < s.length ∧ (∃ b, s[i]? = some b ∧ b ≠ 46)) ∨ ∃ ps, Pz = (s.take i).drop a :: ps ∧ ((i < s.length ∧ s[i]? = some 46 ∧ ps = dotsF (s.drop (i + 1))) ∨ (i = s.length ∧ ps = [])) := by
          by_cases hl : i < s.length
          · obtain ⟨b, hb⟩ : ∃ b, s[i]? = some b := ⟨_, List.getElem?_eq_getElem hl⟩
            by_cases h46 : b = 46
            · rw [h46] at hb
              obtain ⟨g1, g2⟩ := byte_drop hnd hai hl hb
              exact .inr ⟨_, by rw [hPz, g1, dots_hit g2], .inl ⟨hl, hb, rfl⟩⟩
            · exact .inl ⟨hl, b, hb, h46⟩
          · obtain rfl : i = s.length := by omega
            exact .inr ⟨[], by rw [hPz, dots_none (byte_none hnd), List.take_length], .inr ⟨rfl, rfl⟩⟩
        rcases piece with ⟨hl, b, hb, h46⟩ | ⟨ps, hps, hend⟩
        · have hl' : (i : Int) < (s.length : Int) := by omega
          have hb' : ∀ h, s[i]'h = b := fun h => by rw [List.getElem?_eq_getElem h] at hb; exact Option.some.inj hb
          have hbi : ¬ (b.toNat : Int) = 46 := fun e => h46 (by
            have e2 : b.toNat = 46 := by omega
            rw [← UInt8.ofNat_toNat (x := b), e2]; rfl)
          simp [h0, h2, h4, h5, h6, hil', hl, hl', hb', hbi, hw1]
          refine ⟨⟨i + 1, by omega, a, rfl, A, hrow, Pz, hNA, by omega, by omega, .inl ⟨by omega, by omega, hPz, fun j g1 g2 => ?_⟩⟩, by omega⟩
          by_cases hj : j = i
          · rw [hj, hb]; intro e; exact h46 (Option.some.inj e)
          · exact hnd j g1 (by omega)
        · have hgo : ACalls Tryd.prog R 26 [.str ((s.take i).drop a), .int .i64 0, .int .i64 2147483647] H1 fun v H' => H' = H1 ∧ NumP ((s.take i).drop a) 0 2147483647 v := rnumber _ (by simp; omega) _ _ _
          rw [hps] at hNA
          obtain ⟨pc, hpc⟩ : ∃ pc, (s.take i).drop a = pc := ⟨_, rfl⟩
          rw [hpc] at hgo hNA
          have hnext : (i + 1 ≤ s.length ∧ ps = dotsF (s.drop (i + 1))) ∨ (i + 1 = s.length + 1 ∧ ps = []) := by
            rcases hend with ⟨h1, _, h3⟩ | ⟨h1, h3⟩
            · exact .inl ⟨by omega, h3⟩
            · exact .inr ⟨by omega, h3⟩
          rcases hend with ⟨hl, hb, hps2⟩ | ⟨hie, hps2⟩
          case' inl =>
            have hl' : (i : Int) < (s.length : Int) := by omega
            have hb' : ∀ h, s[i]'h = 46 := fun h => by rw [List.getElem?_eq_getElem h] at hb; exact Option.some.inj hb
            simp [h0, h2, h4, h5, h6, hil', hl, hl', hb', boundEv, b2]
            rw [hpc]
          case' inr =>
            have hie' : (i : Int) = (s.length : Int) := by omega
            have hpc' : s.drop a = pc := by rw [hie, List.take_length] at hpc; exact hpc
            have b2' : (a : Int) ≤ (s.length : Int) := by omega
            simp [h0, h2, h4, h5, h6, hie', boundEv, b2']
            rw [hpc']
          all_goals
            refine hgo.mono ?_
            rintro v H2 ⟨rfl, hv⟩
            obtain ⟨q4, q5⟩ := q3 0 0 0
            unfold NumP at hv
            have hbad : (∀ n, numR pc = some n → ¬ (0 ≤ n ∧ n ≤ 2147483647)) → N = none := by
              intro hh
              rw [hNA]
              unfold numsR
              cases hn : numR pc with
              | none => rfl
              | some n => dsimp only; rw [if_neg (hh n hn)]; rfl
            cases hn : numR pc with
            | none =>
              rw [hn] at hv
              dsimp only at hv
              subst hv
              simp [h0, h2, h4, h5, h6, fill30, q1, q2, q4]
              exact ⟨⟨(0, 0, 0), false, rfl, by rw [hPR, hbad (fun n e => by rw [hn] at e; cases e)]; rfl⟩, q5⟩
            | some n =>
              rw [hn] at hv
              dsimp only at hv
              subst hv
              by_cases hb : 0 ≤ n ∧ n ≤ 2147483647
              · have hok : (decide (0 ≤ n) && decide (n ≤ 2147483647)) = true := by rw [← Bool.decide_and]; exact decide_eq_true hb
                obtain ⟨G, hG, hrow2, _, _⟩ := hrow.push (R := R) (by' := 8) (t' := 3) (new := [.int .i64 n]) (by omega) (by omega) (by omega) (by simp [AV.oneCell]) rfl (.known 1)
                have hiv : intsV A ++ [.int .i64 n] = intsV (A ++ [n]) := by simp [intsV]
                rw [hiv] at hrow2
                simp [h0, h2, h4, h5, h6, hok, hb.1, hb.2, fillA, splice, zerosEv, AV.oneCell, hG, hw1]
                have hNA2 : N = (numsR ps).map ((A ++ [n]) ++ ·) := by
                  rw [hNA, nums_step ps hn hb]
                  cases numsR ps <;> simp
                refine ⟨⟨i + 1, by omega, i + 1, by omega, A ++ [n], by simpa using hrow2, ps, hNA2, by simp; omega, by omega, ?_⟩, by omega⟩
                rcases hnext with ⟨k1, k2⟩ | ⟨k1, k2⟩
                · exact .inl ⟨k1, by omega, k2, fun j g1 g2 => by omega⟩
                · exact .inr ⟨k1, k2⟩
              · have hok : (decide (0 ≤ n) && decide (n ≤ 2147483647)) = false := by rw [← Bool.decide_and]; exact decide_eq_false hb
                simp [h0, h2, h4, h5, h6, hok, fill30, q1, q2, q4]
                exact ⟨⟨(0, 0, 0), false, rfl, by rw [hPR, hbad (fun m e => by rw [hn] at e; cases e; exact hb)]; rfl⟩, q5⟩
      · have hie' : ¬ (i : Int) ≤ (s.length : Int) := by omega
        rw [hPz] at hNA
        have hNs : N = some A := by rw [hNA]; simp [numsR]
        obtain ⟨q4, q5⟩ := q3 0 0 0
        by_cases hA3 : A.length = 3
        · obtain ⟨x, y, z, rfl⟩ : ∃ x y z, A = [x, y, z] := by
            match A, hA3 with
            | [x, y, z], _ => exact ⟨x, y, z, rfl⟩
          obtain ⟨q6, q7⟩ := q3 x y z
          rcases hrow.row with ⟨_, e, _⟩ | ⟨j4, e4, hj4, _⟩
          · cases e
          · simp only [intsV, List.map_cons, List.map_nil] at hj4
            rw [e4] at h4
            simp [h0, h2, h4, h5, h6, hie']
            refine AWp.sched [0, 1, 2, 3, 4, 5, 6, 7, 8, 9, 10, 11] Fns.mixed (by decide +kernel) ?_
            simp [h0, h2, h4, hj4, fill33, q6, q1, q2]
            exact ⟨⟨(x, y, z), true, rfl, by rw [hPR, hNs]; rfl⟩, q7⟩
        · have hthree : threeR N = none := by
            rw [hNs]
            unfold threeR
            split
            · rename_i a b c e; cases e; exact absurd rfl hA3
            · rfl
          have hA3' : ¬ (A.length : Int) = 3 := by omega
          rcases hrow.row with ⟨e4, e, _⟩ | ⟨j4, e4, hj4, _⟩
          · rw [e4] at h4
            simp [h0, h2, h4, h5, h6, hie', fill30, q1, q2, q4]
            exact ⟨⟨(0, 0, 0), false, rfl, by rw [hPR, hthree]; rfl⟩, q5⟩
          · rw [e4] at h4
            simp [h0, h2, h4, h5, h6, hie', hA3, hA3', fill30, q1, q2, q4]
            exact ⟨⟨(0, 0, 0), false, rfl, by rw [hPR, hthree]; rfl⟩, q5⟩
    · have hci : ¬ (c0.toNat : Int) = 112 := fun e => hc (by
        have e2 : c0.toNat = 112 := by omega
        rw [← UInt8.ofNat_toNat (x := c0), e2]; rfl)
      simp [Fns.a27, AV.oneCell, g1, hci, fill30, r4]
      exact ⟨⟨(0, 0, 0), false, rfl, by unfold paneR; dsimp only; rw [if_neg hc]; rfl⟩, by simpa using r5⟩
end Go.Proofs.YthcpfmibcoeleaaDoor.Cm
