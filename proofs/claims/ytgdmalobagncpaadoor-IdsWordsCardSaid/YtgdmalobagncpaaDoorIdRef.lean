/- The document's words and names: what its code computes. -/
import Derived.Test.YtgdmalobagncpaaDoorIdParse
namespace Go.Proofs.YtgdmalobagncpaaDoor.Id
open Go Go.RowKit Am
set_option maxRecDepth 100000
set_option linter.unusedSimpArgs false
set_option linter.unusedVariables false
attribute [-simp] Am.binEv Am.intBin Am.read1
attribute [local simp] binEv_lss binEv_leq binEv_gtr binEv_geq binEv_eql binEv_neq binEv_add binEv_sub binEv_mul binEv_shr58 read1_ro read1_mu binEv_seql binEv_sneq
variable {R : Ro}
theorem rmay (n : Int) (H : AH) : ACalls Tryd.prog R 23 [.int .i64 n] H fun v H' => H' = H ∧ v = .bool (decide (0 ≤ n) && decide (n ≤ 2147483647)) := by
  refine ACalls.of_wpE Fns.ok23 (by simp [Fns.a23]) ?_
  by_cases h : 0 ≤ n
  · simp [Fns.a23, h]
  · simp [Fns.a23, h]
theorem dec_len19 {u : Nat} (h : u < 10 ^ 19) : (Lib.decDigits u).length ≤ 20 := dec_len 19 u h
theorem u8_ok (n : Nat) (h : n < 256) : IntKind.u8.wrap (n : Int) = n := wrap_small .u8 n (by simp only [mx]; omega) (by simp only [neg?]; simp)
theorem rdigits0 (n : Nat) (h : n < 10) (H : AH) : ACalls Tryd.prog R 24 [.int .i64 (n : Int)] H fun v H' => v = .str (Lib.decDigits n) ∧ ∃ E, H' = H ++ E := by
  refine ACalls.of_wpE Fns.ok24 (by simp [Fns.a24]) ?_
  have h' : (n : Int) < 10 := by omega
  have hw : IntKind.i64.wrap (48 + (n : Int)) = 48 + n := i64_ok _ (by omega) (by omega)
  have hw2 : IntKind.u8.wrap (48 + (n : Int)) = 48 + n := u8_ok (48 + n) (by omega)
  have ht : (48 + (n : Int)).toNat = 48 + n := by omega
  have hp : (0 : Int) ≤ 48 + (n : Int) := by omega
  simp [Fns.a24, h, h', hw, hw2, ht, hp, fillA, splice, zerosEv, AV.oneCell, dec_small, bytesOf]
theorem rdigits : ∀ (k n : Nat), n < 10 ^ k → n ≤ 2147483647 → ∀ H : AH, ACalls Tryd.prog R 24 [.int .i64 (n : Int)] H fun v H' => v = .str (Lib.decDigits n) ∧ ∃ E, H' = H ++ E
  | 0, n, hk, hn, H => rdigits0 n (by simp at hk; omega) H
  | k + 1, n, hk, hn, H => by
    by_cases h : n < 10
    · exact rdigits0 n h H
    · refine ACalls.of_wpE Fns.ok24 (by simp [Fns.a24]) ?_
      have h' : ¬ (n : Int) < 10 := by omega
      have hq : binEv .quo (.int .i64 (n : Int)) (.int .i64 10) = some (.int .i64 ((n / 10 : Nat) : Int)) := binEv_quoI n 10 (by omega) (by omega)
      have hr : binEv .rem (.int .i64 (n : Int)) (.int .i64 10) = some (.int .i64 ((n % 10 : Nat) : Int)) := binEv_remI n 10 (by omega)
      simp [Fns.a24, h, h', hq, hr]
      refine (rdigits k (n / 10) (by rw [Nat.pow_succ] at hk; omega) (by omega) _).mono ?_
      rintro v H1 ⟨rfl, E, rfl⟩
      simp [hr]
      refine (rdigits0 (n % 10) (by omega) _).mono ?_
      rintro v H1 ⟨rfl, E2, rfl⟩
      have hl1 := dec_len 10 (n / 10) (by omega)
      have hl2 := dec_len 10 (n % 10) (by omega)
      have hs := binEv_sadd (x := Lib.decDigits (n / 10)) (y := Lib.decDigits (n % 10)) (by omega)
      simp [hs]
      rw [dec_big h, ← dec_small (show n % 10 < 10 by omega)]
set_option maxHeartbeats 1000000 in
theorem rwords (a b c : Int) (H : AH) : ACalls Tryd.prog R 12 [.int .i64 a, .int .i64 b, .int .i64 c] H fun v H' => wordsP a b c v ∧ ∃ E, H' = H ++ E := by
  refine ACalls.of_wpE Fns.ok12 (by simp [Fns.a12]) ?_
  have dm : ∀ n : Int, (decide (0 ≤ n) && decide (n ≤ 2147483647)) = decide (mayI n) := fun n => by
    by_cases h : mayI n
    · have h2 := h
      unfold mayI at h2
      simp [h, h2]
    · have h2 := h
      unfold mayI at h2
      simp [h]
      omega
  simp [Fns.a12]
  refine (rmay a _).mono ?_
  rintro v H1 ⟨rfl, rfl⟩
  rw [dm]
  by_cases ha : mayI a
  · simp [ha]
    refine (rmay b _).mono ?_
    rintro v H1 ⟨rfl, rfl⟩
    rw [dm]
    by_cases hb : mayI b
    · simp [hb]
      refine (rmay c _).mono ?_
      rintro v H1 ⟨rfl, rfl⟩
      rw [dm]
      by_cases hc : mayI c
      · simp [hc]
        obtain ⟨an, rfl⟩ : ∃ n : Nat, a = n := ⟨a.toNat, by have := ha.1; omega⟩
        obtain ⟨bn, rfl⟩ : ∃ n : Nat, b = n := ⟨b.toNat, by have := hb.1; omega⟩
        obtain ⟨cn, rfl⟩ : ∃ n : Nat, c = n := ⟨c.toNat, by have := hc.1; omega⟩
        have la := ha.2
        have lb := hb.2
        have lc := hc.2
        have e1 : ∀ n : Nat, Lib.itoa (n : Int) = Lib.decDigits n := fun n => by rw [itoa_pos (by omega)]; simp
        have hl1 := dec_len 10 an (by omega)
        have hl2 := dec_len 10 bn (by omega)
        have hl3 := dec_len 10 cn (by omega)
        refine (rdigits 10 an (by omega) (by omega) _).mono ?_
        rintro v H1 ⟨rfl, E1, rfl⟩
        have s1 := binEv_sadd (x := [112]) (y := Lib.decDigits an) (by simp; omega)
        have s2 := binEv_sadd (x := 112 :: Lib.decDigits an) (y := [46]) (by simp; omega)
        simp [s1, s2]
        refine (rdigits 10 bn (by omega) (by omega) _).mono ?_
        rintro v H1 ⟨rfl, E2, rfl⟩
        have s3 := binEv_sadd (x := 112 :: (Lib.decDigits an ++ [46])) (y := Lib.decDigits bn) (by simp; omega)
        have s4 := binEv_sadd (x := 112 :: (Lib.decDigits an ++ 46 :: Lib.decDigits bn)) (y := [46]) (by simp; omega)
        simp [s3, s4]
        refine (rdigits 10 cn (by omega) (by omega) _).mono ?_
        rintro v H1 ⟨rfl, E3, rfl⟩
        have s5 := binEv_sadd (x := 112 :: (Lib.decDigits an ++ 46 :: (Lib.decDigits bn ++ [46]))) (y := Lib.decDigits cn) (by simp; omega)
        simp [s5]
        exact .inl ⟨ha, hb, hc, by simp [wordsF, e1]⟩
      · simp [hc]
        exact .inr ⟨fun h => hc h.2.2, rfl⟩
    · simp [hb]
      exact .inr ⟨fun h => hb h.2.1, rfl⟩
  · simp [ha]
    exact .inr ⟨fun h => ha h.1, rfl⟩
/-- What is behind a place. -/
def numQ (s : List UInt8) (p : Nat) (v : AV) : Prop := match numD (s.drop p) with
    | some (n, k) => v = .tuple [.int .i64 (n : Int), .int .i64 ((p + k : Nat) : Int)]
    | none => ∃ q : Int, v = .tuple [.int .i64 (-1), .int .i64 q]
set_option maxHeartbeats 2000000 in
theorem rnumber (s : List UInt8) (hs : s.length ≤ 2100) (p : Nat) (hp : p ≤ s.length) (H : AH) : ACalls Tryd.prog R 25 [.str s, .int .i64 (p : Int)] H fun v H' => H' = H ∧ numQ s p v := by
  refine ACalls.of_wpE Fns.ok25 (by simp [Fns.a25]) ?_
  simp [Fns.a25]
  obtain ⟨D, hD⟩ : ∃ D, runD 0 0 (s.drop p) = D := ⟨_, rfl⟩
  refine AWp.mono (Q := fun ex e H1 => (ex = .exit 0 ∧ H1 = H ∧ e 0 = .str s ∧ e 6 = .int .i64 p ∧ ∃ (n k : Nat), e 1 = .int .i64 ((p + k : Nat) : Int) ∧ e 7 = .int .i64 n ∧ p + k ≤ s.length ∧ D = some (n, k)) ∨
    (ex = .ret ∧ H1 = H ∧ e 4 = .int .i64 (-1) ∧ (∃ q : Int, e 5 = .int .i64 q) ∧ D = none)) (AWp.loop (fun e H1 => H1 = H ∧ e 0 = .str s ∧ e 6 = .int .i64 p ∧ ∃ (n k : Nat), e 1 = .int .i64 ((p + k : Nat) : Int) ∧ e 7 = .int .i64 n ∧ p + k ≤ s.length ∧ n ≤ 2147483647 ∧ D = runD n k (s.drop (p + k)))
    (fun e _ => match e 1 with | .int _ i => ((s.length : Int) - i).toNat | _ => 0) ⟨rfl, by simp, by simp, 0, 0, by simp, by simp, by omega, by omega, by rw [← hD]; simp⟩ ?_) ?_
  · rintro e H1 ⟨rfl, h0, h6, n, k, h1, h7, hk, hn, hrun⟩
    refine wpE_sound _ ?_
    by_cases hl : p + k < s.length
    · have hl' : ((p + k : Nat) : Int) < (s.length : Int) := by omega
      obtain ⟨ch, hch⟩ : ∃ ch, s[p + k]? = some ch := ⟨_, List.getElem?_eq_getElem hl⟩
      have hch' : ∀ h, s[p + k]'h = ch := fun h => by rw [List.getElem?_eq_getElem h] at hch; exact Option.some.inj hch
      have hdrop : s.drop (p + k) = ch :: s.drop (p + (k + 1)) := by
        rw [List.drop_eq_getElem_cons hl, hch' hl]
        rfl
      rw [hdrop] at hrun
      unfold runD at hrun
      have hp0 : (0 : Int) ≤ ((p + k : Nat) : Int) := by omega
      obtain ⟨m, hm⟩ : ∃ m, m = p + k := ⟨_, rfl⟩
      rw [← hm] at h1 hl hl' hch hch' hp0
      have hm2 : p + (k + 1) = m + 1 := by omega
      by_cases hd : isD ch = true
      · rw [if_pos hd] at hrun
        unfold isD at hd
        simp at hd
        obtain ⟨g1, g2⟩ := hd
        have g1' : (48 : Int) ≤ (ch.toNat : Int) := by omega
        have g2' : (ch.toNat : Int) ≤ 57 := by omega
        obtain ⟨c, hc⟩ : ∃ c, c = ch.toNat := ⟨_, rfl⟩
        rw [← hc] at g1 g2 g1' g2' hrun
        have hw1 : IntKind.i64.wrap (10 * (n : Int)) = 10 * n := i64_ok _ (by omega) (by omega)
        have hw2 : IntKind.i64.wrap (c : Int) = c := i64_ok _ (by omega) (by omega)
        have hw3 : IntKind.i64.wrap (10 * (n : Int) + c) = 10 * n + c := i64_ok _ (by omega) (by omega)
        have hw4 : IntKind.i64.wrap (10 * (n : Int) + c - 48) = 10 * n + c - 48 := i64_ok _ (by omega) (by omega)
        have hw5 : IntKind.i64.wrap ((m : Int) + 1) = (m : Int) + 1 := i64_ok _ (by omega) (by omega)
        have hcast : (10 * (n : Int) + c - 48) = ((10 * n + (c - 48) : Nat) : Int) := by omega
        by_cases hb : 2147483647 < 10 * n + (c - 48)
        · rw [if_pos hb] at hrun
          have hb' : 2147483647 < 10 * (n : Int) + c - 48 := by omega
          simp [h0, h1, h6, h7, hl, hl', hch', hp0, ← hc, g1, g2, g1', g2', hw1, hw2, hw3, hw4, hw5, hb', hrun]
        · rw [if_neg hb] at hrun
          have hb' : ¬ 2147483647 < 10 * (n : Int) + c - 48 := by omega
          simp [h0, h1, h6, h7, hl, hl', hch', hp0, ← hc, g1, g2, g1', g2', hw1, hw2, hw3, hw4, hw5, hb']
          exact ⟨⟨10 * n + (c - 48), k + 1, by omega, by omega, by omega, by omega, hrun⟩, by omega⟩
      · rw [if_neg hd] at hrun
        unfold isD at hd
        simp at hd
        by_cases g1 : 48 ≤ ch.toNat
        · have g2 := hd g1
          have g1' : (48 : Int) ≤ (ch.toNat : Int) := by omega
          have g2' : ¬ (ch.toNat : Int) ≤ 57 := by omega
          simp [h0, h1, h6, h7, hl, hl', hch', hp0, g1', g2']
          exact ⟨n, k, by omega, rfl, by omega, hrun⟩
        · have g1' : ¬ (48 : Int) ≤ (ch.toNat : Int) := by omega
          simp [h0, h1, h6, h7, hl, hl', hch', hp0, g1']
          exact ⟨n, k, by omega, rfl, by omega, hrun⟩
    · have hl' : ¬ ((p + k : Nat) : Int) < (s.length : Int) := by omega
      rw [List.drop_eq_nil_of_le (by omega)] at hrun
      unfold runD at hrun
      obtain ⟨m, hm⟩ : ∃ m, m = p + k := ⟨_, rfl⟩
      rw [← hm] at h1 hl hl'
      simp [h0, h1, h6, h7, hl, hl']
      exact ⟨n, k, by omega, rfl, by omega, hrun⟩
  · rintro ex e H1 (⟨rfl, rfl, h0, h6, n, k, h1, h7, hk, hrun⟩ | ⟨rfl, rfl, h4, ⟨q, h5⟩, hrun⟩)
    · have hw1 : IntKind.i64.wrap ((p : Int) + 1) = (p : Int) + 1 := i64_ok _ (by omega) (by omega)
      unfold numQ numD
      rw [hD, hrun]
      by_cases hk0 : k = 0
      · subst hk0
        simp [h0, h1, h6, h7]
      · obtain ⟨m, hm⟩ : ∃ m, m = p + k := ⟨_, rfl⟩
        rw [← hm] at h1 hk
        have hne : ¬ (m : Int) = (p : Int) := by omega
        have hne' : ¬ m = p := by omega
        by_cases hk1 : 1 < k
        · have hgt : (p : Int) + 1 < (m : Int) := by omega
          have hpl : p < s.length := by omega
          obtain ⟨c0, hc0⟩ : ∃ c0, s[p]? = some c0 := ⟨_, List.getElem?_eq_getElem hpl⟩
          have hc0' : ∀ h, s[p]'h = c0 := fun h => by rw [List.getElem?_eq_getElem h] at hc0; exact Option.some.inj hc0
          have hh : (s.drop p).head? = some c0 := by rw [List.drop_eq_getElem_cons hpl, hc0' hpl]; rfl
          by_cases hz : c0 = 48
          · have hz' : c0.toNat = 48 := by rw [hz]; rfl
            have hz2 : (c0.toNat : Int) = 48 := by omega
            simp [h0, h1, h6, h7, hne, hne', hw1, hgt, hpl, hc0', hz, hk0, hk1, hh]
          · have hz' : ¬ c0.toNat = 48 := fun h => hz (by
              rw [← UInt8.ofNat_toNat (x := c0), h]; rfl)
            have hz2 : ¬ (c0.toNat : Int) = 48 := by omega
            simp [h0, h1, h6, h7, hne, hne', hw1, hgt, hpl, hc0', hz, hz', hz2, hk0, hk1, hh]
            omega
        · have hgt : ¬ (p : Int) + 1 < (m : Int) := by omega
          simp [h0, h1, h6, h7, hne, hne', hw1, hgt, hk0, hk1]
          omega
    · simp [h4, h5, numQ, numD, hD, hrun]
end Go.Proofs.YtgdmalobagncpaaDoor.Id
