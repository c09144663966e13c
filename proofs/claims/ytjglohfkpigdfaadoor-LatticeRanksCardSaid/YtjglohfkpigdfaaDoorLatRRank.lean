/- The document's table of ranks and sets. -/
import Derived.Test.YtjglohfkpigdfaaDoorLatRank
import Derived.Test.YtjglohfkpigdfaaDoorLatGood
import Derived.Test.YtjglohfkpigdfaaDoorAmApp
namespace Go.Proofs.YtjglohfkpigdfaaDoor.Latt
open Go Go.RowKit Am
set_option maxRecDepth 100000
set_option linter.unusedSimpArgs false
set_option linter.unusedVariables false
attribute [-simp] Am.binEv Am.intBin Am.read1
attribute [local simp] binEv_lss binEv_leq binEv_gtr binEv_geq binEv_eql binEv_neq binEv_add binEv_sub binEv_mul binEv_shr58 read1_ro read1_mu
variable {R : Ro}
/-- One set's bits in another's, as far as 'k' shows. -/
def bitsIn (x y k : Nat) : Bool := (List.range k).all fun j => !x.testBit j || y.testBit j
theorem bitsIn_succ (x y k : Nat) : bitsIn x y (k + 1) = (bitsIn x y k && (!x.testBit k || y.testBit k)) := by unfold bitsIn; rw [List.range_succ, List.all_append]; simp
theorem bitsIn_all {x y k : Nat} (hx : x < 2 ^ k) (hk : k ≤ 6) (hy : y < M64) : bitsIn x y k = decide (nandN x y = 0) := by
  have hx' : x < M64 := Nat.lt_of_lt_of_le hx (by unfold M64; exact Nat.le_trans (Nat.pow_le_pow_right (by omega) hk) (by decide))
  rw [Bool.eq_iff_iff, decide_eq_true_eq, nandN_zero _ _ hx' hy]
  unfold bitsIn
  simp only [List.all_eq_true, List.mem_range]
  constructor
  · intro h j hj
    by_cases hjk : j < k
    · have := h j hjk; rw [hj] at this; simpa using this
    · have := Nat.testBit_lt_two_pow (Nat.lt_of_lt_of_le hx (Nat.pow_le_pow_right (by omega) (Nat.le_of_not_lt hjk)))
      rw [this] at hj; cases hj
  · intro h j _
    cases hj : x.testBit j with
    | false => rfl
    | true => simp [h j hj]
/-- The rows that are there. -/
def TRow (H0 H : AH) (rs : List AV) (r n a : Nat) : Prop := rs.length = a ∧ ∀ i, i < a → ∃ j, rs[i]? = some (.slice (.mu j) 0 n (.opn 0)) ∧ H[j]? = some (.row (rowV r i n) 4 1) ∧ H0.length ≤ j
theorem TRow.frame {H0 H H' : AH} {rs : List AV} {r n a : Nat} (h : TRow H0 H rs r n a) (hf : ∀ (j : Nat) (C : List AV), H[j]? = some (AO.row C 4 1) → H'[j]? = H[j]?) : TRow H0 H' rs r n a :=
  ⟨h.1, fun i hi => by obtain ⟨j, h1, h2, h3⟩ := h.2 i hi; exact ⟨j, h1, by rw [hf j _ h2]; exact h2, h3⟩⟩
theorem TRow.push {H0 H : AH} {rs : List AV} {r n a j : Nat} (h : TRow H0 H rs r n a) (hj : H[j]? = some (.row (rowV r a n) 4 1)) (hl : H0.length ≤ j) : TRow H0 H (rs ++ [.slice (.mu j) 0 n (.opn 0)]) r n (a + 1) := by
  refine ⟨by simp [h.1], fun i hi => ?_⟩
  by_cases hia : i = a
  · subst hia
    exact ⟨j, by rw [List.getElem?_append_right (by rw [h.1]; omega), h.1, Nat.sub_self]; rfl, hj, hl⟩
  · obtain ⟨k, h1, h2, h3⟩ := h.2 i (by omega)
    exact ⟨k, by rw [List.getElem?_append_left (by rw [h.1]; omega)]; exact h1, h2, h3⟩
theorem half2 (x : Nat) (i : Nat) : (x / 2 ^ i) / 2 = x / 2 ^ (i + 1) := by rw [Nat.div_div_eq_div_mul, Nat.pow_succ]
theorem mod2 (x i : Nat) : (x / 2 ^ i) % 2 = (x.testBit i).toNat := by rw [Nat.testBit_eq_decide_div_mod_eq]; by_cases h : x / 2 ^ i % 2 = 1 <;> simp [h]; omega
set_option maxHeartbeats 8000000 in
theorem rrank_yes (H : AH) (rn sn : Nat) (h1 : 1 ≤ rn) (h2 : rn ≤ 64) (h4 : sn ≤ 6) (hn : rn * 2 ^ sn ≤ 64) :
    ACalls Tryd.prog R 20 [.int .i64 rn, .int .i64 sn] H fun v H' => Keeps H H' ∧ ∃ rs j, v = .slice (.mu j) 0 (rn * 2 ^ sn) (.opn 0) ∧ H.length ≤ j ∧ H'[j]? = some (.row rs 26 1) ∧ TRow H H' rs rn (rn * 2 ^ sn) (rn * 2 ^ sn) := by
  refine ACalls.of_wpE Fns.ok20 (by simp [Fns.a20]) ?_
  have g1 : ¬ (rn : Int) < 1 := by omega
  have g2 : ¬ (64 : Int) < rn := by omega
  have g3 : ¬ (sn : Int) < 0 := by omega
  have g4 : ¬ (6 : Int) < sn := by omega
  have g6 : ¬ 64 < rn := by omega
  have g7 : ¬ 6 < sn := by omega
  have g8 : ¬ rn = 0 := by omega
  simp [Fns.a20, g1, g2, g3, g4, g6, g7, g8]
  refine AWp.loop (fun e H' => H' = H ∧ e 0 = .int .i64 rn ∧ e 1 = .int .i64 sn ∧ ∃ i : Nat, e 6 = .int .i64 i ∧ i ≤ sn ∧ e 5 = .int .i64 (rn * 2 ^ i : Nat))
    (fun e _ => match e 6 with | .int _ i => ((sn : Int) - i).toNat | _ => 0) ⟨rfl, by simp, by simp, 0, by simp, by omega, by simp⟩ ?_
  rintro e H' ⟨rfl, h0, h1', i, h6, hi, h5⟩
  refine wpE_sound _ ?_
  by_cases his : i < sn
  · have his' : (i : Int) < (sn : Int) := by omega
    have hp : 2 ^ (i + 1) ≤ 2 ^ sn := Nat.pow_le_pow_right (by omega) his
    have hle : rn * 2 ^ (i + 1) ≤ rn * 2 ^ sn := Nat.mul_le_mul (Nat.le_refl _) hp
    have hmul : rn * 2 ^ (i + 1) = 2 * (rn * 2 ^ i) := by rw [Nat.pow_succ]; ac_rfl
    obtain ⟨m, hm⟩ : ∃ m, m = rn * 2 ^ i := ⟨_, rfl⟩
    rw [← hm] at h5 hmul
    have hw1 := i64_small ((i : Int) + 1) (by omega) (by omega)
    have hw2 := i64_small (2 * (m : Int)) (by omega) (by omega)
    simp [h0, h1', h5, h6, his, his', hw1, hw2]
    refine ⟨⟨i + 1, by simp, by omega, ?_⟩, by omega⟩
    have := congrArg (fun z : Nat => (z : Int)) hmul
    push_cast at this
    exact this.symm
  obtain rfl : i = sn := by omega
  obtain ⟨n, hnn⟩ : ∃ n, n = rn * 2 ^ i := ⟨_, rfl⟩
  have hn0 : 0 < n := by rw [hnn]; exact Nat.mul_pos (by omega) (Nat.two_pow_pos _)
  have hdiv : ∀ x, x < n → x / rn < 2 ^ i := fun x hx => div_lt_pow (by rw [← hnn]; exact hx)
  rw [← hnn] at h5 hn ⊢
  have g5 : ¬ (64 : Int) < (n : Int) := by omega
  have g5' : ¬ 64 < n := by omega
  simp [h0, h1', h5, h6, g5, g5']
  refine AWp.loop (fun e H1 => e 0 = .int .i64 rn ∧ e 1 = .int .i64 i ∧ e 5 = .int .i64 n ∧ ∃ a : Nat, e 8 = .int .i64 a ∧ a ≤ n ∧ ∃ rs v7, e 7 = v7 ∧ RowOwn H' H1 v7 a 1 26 rs ∧ TRow H' H1 rs rn n a)
    (fun e _ => match e 8 with | .int _ i => ((n : Int) - i).toNat | _ => 0) ⟨by simp [h0], by simp [h1'], by simp [h5], 0, by simp, by omega, [], .nilslice, by simp, RowOwn.nil H' 1 26, rfl, fun i hi => absurd hi (by omega)⟩ ?_
  rintro e H1 ⟨h0, h1', h5, a, h8, ha, rs, v7, h7, hrow, htr⟩
  refine wpE_sound _ ?_
  by_cases hal : a < n
  · have hal' : (a : Int) < (n : Int) := by omega
    have hwa := i64_small ((a : Int) + 1) (by omega) (by omega)
    simp [h0, h1', h5, h7, h8, hal, hal']
    refine AWp.loop (fun e H2 => e 0 = .int .i64 rn ∧ e 1 = .int .i64 i ∧ e 5 = .int .i64 n ∧ e 8 = .int .i64 a ∧ e 7 = v7 ∧ ∃ b : Nat, e 10 = .int .i64 b ∧ b ≤ n ∧ RowOwn H1 H2 (e 9) b 1 4 (rowV rn a b))
      (fun e _ => match e 10 with | .int _ i => ((n : Int) - i).toNat | _ => 0) ⟨by simp [h0], by simp [h1'], by simp [h5], by simp [h8], by simp [h7], 0, by simp, by omega, by simpa [rowV] using RowOwn.nil H1 1 4⟩ ?_
    rintro e H2 ⟨h0, h1', h5, h8, h7, b, h10, hb, hcol⟩
    refine wpE_sound _ ?_
    by_cases hbl : b < n
    · have hbl' : (b : Int) < (n : Int) := by omega
      have hwb := i64_small ((b : Int) + 1) (by omega) (by omega)
      obtain ⟨ra, hra⟩ : ∃ x, x = a % rn := ⟨_, rfl⟩
      obtain ⟨rb, hrb⟩ : ∃ x, x = b % rn := ⟨_, rfl⟩
      obtain ⟨qa, hqa⟩ : ∃ x, x = a / rn := ⟨_, rfl⟩
      obtain ⟨qb, hqb⟩ : ∃ x, x = b / rn := ⟨_, rfl⟩
      have fra : binEv .rem (.int .i64 (a : Int)) (.int .i64 (rn : Int)) = some (.int .i64 (ra : Int)) := by rw [hra]; exact binEv_remI a rn g8
      have frb : binEv .rem (.int .i64 (b : Int)) (.int .i64 (rn : Int)) = some (.int .i64 (rb : Int)) := by rw [hrb]; exact binEv_remI b rn g8
      have fqa : binEv .quo (.int .i64 (a : Int)) (.int .i64 (rn : Int)) = some (.int .i64 (qa : Int)) := by rw [hqa]; exact binEv_quoI a rn g8 (by omega)
      have fqb : binEv .quo (.int .i64 (b : Int)) (.int .i64 (rn : Int)) = some (.int .i64 (qb : Int)) := by rw [hqb]; exact binEv_quoI b rn g8 (by omega)
      have hqal : qa ≤ a := by rw [hqa]; exact Nat.div_le_self _ _
      have hqbl : qb ≤ b := by rw [hqb]; exact Nat.div_le_self _ _
      have hqa2 : qa < 2 ^ i := by rw [hqa]; exact hdiv a hal
      have hrk : rk rn a b = (decide (ra ≤ rb) && bitsIn qa qb i) := by rw [bitsIn_all hqa2 h4 (by unfold M64; omega)]; unfold rk; rw [hra, hrb, hqa, hqb]
      simp [h0, h1', h5, h8, h10, hbl, hbl']
      refine AWp.seqDraw Fns.mixed (by decide +kernel) ?_
      simp [h0, h8, h10, fra, frb]
      refine AWp.seqDraw Fns.mixed (by decide +kernel) ?_
      simp [h0, h8, h10, fqa, fqb]
      refine AWp.loop (fun e H3 => H3 = H2 ∧ e 0 = .int .i64 rn ∧ e 1 = .int .i64 i ∧ e 5 = .int .i64 n ∧ e 8 = .int .i64 a ∧ e 10 = .int .i64 b ∧ e 7 = v7 ∧ RowOwn H1 H2 (e 9) b 1 4 (rowV rn a b) ∧
          ∃ k : Nat, e 14 = .int .i64 k ∧ k ≤ i ∧ e 11 = .bool (decide (ra ≤ rb) && bitsIn qa qb k) ∧ e 12 = .int .i64 (qa / 2 ^ k : Nat) ∧ e 13 = .int .i64 (qb / 2 ^ k : Nat))
        (fun e _ => match e 14 with | .int _ k => ((i : Int) - k).toNat | _ => 0) ⟨rfl, by simp [h0], by simp [h1'], by simp [h5], by simp [h8], by simp [h10], by simp [h7], by simpa using hcol, 0, by simp, by omega, by simp [bitsIn], by simp, by simp⟩ ?_
      rintro e H3 ⟨rfl, h0, h1', h5, h8, h10, h7, hcol, k, h14, hk, h11, h12, h13⟩
      refine wpE_sound _ ?_
      by_cases hki : k < i
      · have hki' : (k : Int) < (i : Int) := by omega
        have hwk := i64_small ((k : Int) + 1) (by omega) (by omega)
        obtain ⟨xa, hxa⟩ : ∃ x, x = qa / 2 ^ k := ⟨_, rfl⟩
        obtain ⟨xb, hxb⟩ : ∃ x, x = qb / 2 ^ k := ⟨_, rfl⟩
        have hxal : xa ≤ qa := by rw [hxa]; exact Nat.div_le_self _ _
        have hxbl : xb ≤ qb := by rw [hxb]; exact Nat.div_le_self _ _
        have e12 := half2 qa k
        have e13 := half2 qb k
        have m12 := mod2 qa k
        have m13 := mod2 qb k
        rw [← hxa] at h12 e12 m12
        rw [← hxb] at h13 e13 m13
        have fma : binEv .rem (.int .i64 (xa : Int)) (.int .i64 2) = some (.int .i64 ((xa % 2 : Nat) : Int)) := binEv_remI xa 2 (by omega)
        have fmb : binEv .rem (.int .i64 (xb : Int)) (.int .i64 2) = some (.int .i64 ((xb % 2 : Nat) : Int)) := binEv_remI xb 2 (by omega)
        have fda : binEv .quo (.int .i64 (xa : Int)) (.int .i64 2) = some (.int .i64 ((xa / 2 : Nat) : Int)) := binEv_quoI xa 2 (by omega) (by omega)
        have fdb : binEv .quo (.int .i64 (xb : Int)) (.int .i64 2) = some (.int .i64 ((xb / 2 : Nat) : Int)) := binEv_quoI xb 2 (by omega) (by omega)
        rw [e12] at fda
        rw [e13] at fdb
        rw [m12] at fma
        rw [m13] at fmb
        have hsu := bitsIn_succ qa qb k
        cases hok : (decide (ra ≤ rb) && bitsIn qa qb k) with
        | false =>
          rw [hok] at h11
          simp [h0, h1', h5, h7, h8, h10, h11, h12, h13, h14, hki, hki', fda, fdb, hwk]
          have hs2 : (decide (ra ≤ rb) && bitsIn qa qb (k + 1)) = false := by rw [hsu, ← Bool.and_assoc, hok]; rfl
          exact ⟨⟨hcol, k + 1, by simp, by omega, by simpa using hs2, rfl, rfl⟩, by omega⟩
        | true =>
          rw [hok] at h11
          have hs2 : (decide (ra ≤ rb) && bitsIn qa qb (k + 1)) = (!qa.testBit k || qb.testBit k) := by rw [hsu, ← Bool.and_assoc, hok, Bool.true_and]
          cases ha2 : qa.testBit k with
          | false =>
            rw [ha2] at fma hs2
            simp at fma
            simp [h0, h1', h5, h7, h8, h10, h11, h12, h13, h14, hki, hki', fda, fdb, fma, hwk]
            exact ⟨⟨hcol, k + 1, by simp, by omega, by simpa using hs2, rfl, rfl⟩, by omega⟩
          | true =>
            rw [ha2] at fma hs2
            simp at fma
            cases hb2 : qb.testBit k with
            | false =>
              rw [hb2] at fmb hs2
              simp at fmb
              simp [h0, h1', h5, h7, h8, h10, h11, h12, h13, h14, hki, hki', fda, fdb, fma, fmb, hwk]
              exact ⟨⟨hcol, k + 1, by simp, by omega, by simpa using hs2, rfl, rfl⟩, by omega⟩
            | true =>
              rw [hb2] at fmb hs2
              simp at fmb
              simp [h0, h1', h5, h7, h8, h10, h11, h12, h13, h14, hki, hki', fda, fdb, fma, fmb, hwk]
              exact ⟨⟨hcol, k + 1, by simp, by omega, by simpa using hs2, rfl, rfl⟩, by omega⟩
      · obtain rfl : k = i := by omega
        rw [← hrk] at h11
        obtain ⟨vb, hvb⟩ : ∃ x, x = rk rn a b := ⟨_, rfl⟩
        rw [← hvb] at h11
        obtain ⟨G, hG, hcol2, hGl, hGf⟩ := hcol.push (R := R) (by' := 1) (t' := 4) (new := [.bool vb]) (by omega) (by omega) (by omega) (by simp [AV.oneCell]) rfl (.known 1)
        simp [h0, h1', h5, h7, h8, h10, h11, h14, fillA, splice, zerosEv, AV.oneCell, hG, hwb]
        exact ⟨⟨b + 1, by simp, by omega, by rw [rowV_succ, ← hvb]; exact hcol2⟩, by omega⟩
    · obtain rfl : b = n := by omega
      rcases hcol.row with ⟨_, h, _⟩ | ⟨jc, hj1, hj2, _⟩
      · omega
      have hrow2 := hrow.more hcol.keeps
      obtain ⟨G, hG, hrow3, hGl, hGf⟩ := hrow2.push (R := R) (by' := 24) (t' := 26) (new := [.slice (.mu jc) 0 b (.opn 0)]) (by omega) (by omega) (by omega) (by simp [AV.oneCell]) rfl (.known 1)
      have hoff : ∀ (j : Nat) (C : List AV), H2[j]? = some (AO.row C 4 1) → G[j]? = H2[j]? := fun j C hj => by
        refine hGf j (List.getElem?_eq_some_iff.1 hj).1 fun o l c e => ?_
        rcases hrow2.row with ⟨h1, _⟩ | ⟨j', h1, h2, _⟩
        · rw [e] at h1; cases h1
        · rw [e] at h1; cases h1
          rw [hj] at h2; cases h2
      simp [h0, h1', h5, h7, h8, h10, hj1, fillA, splice, zerosEv, AV.oneCell, hG, hwa]
      refine ⟨⟨a + 1, by simp, by omega, _, hrow3, TRow.push (j := jc) ?_ (by rw [hoff jc _ hj2]; exact hj2) (by have := hcol.low jc _ _ _ hj1; have := hrow.keeps.1; omega)⟩, by omega⟩
      exact (htr.frame (H' := H2) fun j C hj => hcol.keeps.2 j (List.getElem?_eq_some_iff.1 hj).1).frame hoff
  · obtain rfl : a = n := by omega
    simp [h0, h1', h5, h7, h8]
    rcases hrow.row with ⟨_, h, _⟩ | ⟨j, hj1, hj2, _⟩
    · omega
    · exact ⟨hrow.keeps, rs, j, hj1, hrow.low j _ _ _ hj1, hj2, htr⟩
set_option maxHeartbeats 4000000 in
theorem rrank_no (H : AH) (r s : Int) (hno : ¬ RankMay r s) : ACalls Tryd.prog R 20 [.int .i64 r, .int .i64 s] H fun v H' => v = .nilslice ∧ H' = H := by
  refine ACalls.of_wpE Fns.ok20 (by simp [Fns.a20]) ?_
  by_cases h1 : r < 1
  · simp [Fns.a20, h1]
  by_cases h2 : 64 < r
  · simp [Fns.a20, h1, h2]
  by_cases h3 : s < 0
  · simp [Fns.a20, h1, h2, h3]
  by_cases h4 : 6 < s
  · simp [Fns.a20, h1, h2, h3, h4]
  obtain ⟨rn, rfl⟩ : ∃ n : Nat, r = n := ⟨r.toNat, by omega⟩
  obtain ⟨sn, rfl⟩ : ∃ n : Nat, s = n := ⟨s.toNat, by omega⟩
  have g6 : ¬ 64 < rn := by omega
  have g7 : ¬ 6 < sn := by omega
  have g8 : ¬ rn = 0 := by omega
  have h5 : 64 < rn * 2 ^ sn := by
    refine Nat.lt_of_not_le fun h => hno ⟨by omega, by omega, by omega, by omega, by simpa using h⟩
  simp [Fns.a20, h1, h2, h3, h4, g6, g7, g8]
  refine AWp.loop (fun e H' => H' = H ∧ e 0 = .int .i64 rn ∧ e 1 = .int .i64 sn ∧ ∃ i : Nat, e 6 = .int .i64 i ∧ i ≤ sn ∧ e 5 = .int .i64 (rn * 2 ^ i : Nat))
    (fun e _ => match e 6 with | .int _ i => ((sn : Int) - i).toNat | _ => 0) ⟨rfl, by simp, by simp, 0, by simp, by omega, by simp⟩ ?_
  rintro e H' ⟨rfl, h0, h1', i, h6, hi, h5'⟩
  refine wpE_sound _ ?_
  by_cases his : i < sn
  · have his' : (i : Int) < (sn : Int) := by omega
    have hp : 2 ^ (i + 1) ≤ 2 ^ 6 := Nat.pow_le_pow_right (by omega) (by omega)
    have hle : rn * 2 ^ (i + 1) ≤ 64 * 2 ^ 6 := Nat.mul_le_mul (by omega) hp
    have hmul : rn * 2 ^ (i + 1) = 2 * (rn * 2 ^ i) := by rw [Nat.pow_succ]; ac_rfl
    obtain ⟨m, hm⟩ : ∃ m, m = rn * 2 ^ i := ⟨_, rfl⟩
    rw [← hm] at h5' hmul
    have hw1 := i64_small ((i : Int) + 1) (by omega) (by omega)
    have hw2 := i64_small (2 * (m : Int)) (by omega) (by omega)
    simp [h0, h1', h5', h6, his, his', hw1, hw2]
    refine ⟨⟨i + 1, by simp, by omega, ?_⟩, by omega⟩
    have := congrArg (fun z : Nat => (z : Int)) hmul
    push_cast at this
    exact this.symm
  obtain rfl : i = sn := by omega
  obtain ⟨n, hnn⟩ : ∃ n, n = rn * 2 ^ i := ⟨_, rfl⟩
  rw [← hnn] at h5 h5'
  have g5 : (64 : Int) < (n : Int) := by omega
  simp [h0, h1', h5, h5', h6, g5]
/-- The document's table, wherever the rest of the heap has gone. -/
theorem rrank_ok (H : AH) (r s : Int) (hm : RankMay r s) : ACalls Tryd.prog R 20 [.int .i64 r, .int .i64 s] H fun v H' => Keeps H H' ∧ (∃ l off c, v = .slice l off (r.toNat * 2 ^ s.toNat) c) ∧
    ∀ H2 : AH, (∀ i, H.length ≤ i → i < H'.length → H2[i]? = H'[i]?) → TabIn R H2 v (rankT r.toNat (r.toNat * 2 ^ s.toNat)) := by
  obtain ⟨h1, h2, h3, h4, h5⟩ := hm
  obtain ⟨rn, rfl⟩ : ∃ n : Nat, r = n := ⟨r.toNat, by omega⟩
  obtain ⟨sn, rfl⟩ : ∃ n : Nat, s = n := ⟨s.toNat, by omega⟩
  simp only [Int.toNat_natCast] at h5 ⊢
  refine (rrank_yes H rn sn (by omega) (by omega) (by omega) h5).mono ?_
  rintro v H' ⟨hk, rs, j, rfl, hj, hrow, hlen, htr⟩
  refine ⟨hk, ⟨_, _, _, rfl⟩, fun H2 hf => ?_⟩
  have hjl := (List.getElem?_eq_some_iff.1 hrow).1
  refine ⟨rs, .inr ⟨.mu j, 0, .opn 0, by rw [hlen], fun i x hx => ?_⟩, by rw [hlen, rankT_len], fun i w hw => ?_⟩
  · rw [read1_mu, hf j hj hjl, hrow]; simpa using hx
  · have hi : i < rn * 2 ^ sn := by have := (List.getElem?_eq_some_iff.1 hw).1; rwa [rankT_len] at this
    rw [rankT_get rn hi] at hw
    cases hw
    obtain ⟨k, h1, h2, h3⟩ := htr i hi
    refine ⟨_, h1, .inr ⟨.mu k, 0, .opn 0, by simp, fun z x hx => ?_⟩⟩
    rw [read1_mu, hf k h3 (List.getElem?_eq_some_iff.1 h2).1, h2]
    simpa [rowV, Function.comp_def] using hx
end Go.Proofs.YtjglohfkpigdfaaDoor.Latt
