/- What is given for one label hangs on how often that was asked for alone: what the code computes. -/
import Derived.Test.YtgdmalobagncpaaDoorCount
namespace Go.Proofs.YtgdmalobagncpaaDoor.Cnt
open Go Go.RowKit Am Latt
set_option maxRecDepth 100000
set_option linter.unusedSimpArgs false
set_option linter.unusedVariables false
attribute [-simp] Am.binEv Am.intBin Am.read1
attribute [local simp] binEv_lss binEv_leq binEv_gtr binEv_geq binEv_eql binEv_neq binEv_add binEv_sub binEv_mul binEv_shr58 read1_ro read1_mu
variable {R : Ro}
def AInv (r : Nat) (a : AV) (x : Int) (L : List (List AV)) (d1 j1 d2 j2 n : Nat) (e : Env) (H : AH) : Prop :=
  ∃ (i : Nat) (f g : Nat → Int), e 0 = .int .u8 r ∧ e 1 = a ∧ e 2 = .int .i64 x ∧ e 9 = .ptr (.mu d1) 0 ∧ e 10 = .ptr (.mu d2) 0 ∧ e 11 = .int .i64 i ∧ i ≤ L.length ∧ IdsIn H d1 j1 n f ∧ IdsIn H d2 j2 n g ∧ d1 ≠ j2 ∧ d2 ≠ j1 ∧ j1 ≠ j2 ∧
    (∀ y, 0 ≤ f y ∧ f y ≤ i) ∧ (∀ y, 0 ≤ g y ∧ g y ≤ i) ∧ (isL n x = true → f x.toNat = g x.toNat)
set_option maxHeartbeats 4000000 in
theorem apart {a : AV} {L : List (List AV)} {r x : Int} (hT : HasTab R) (haw : ∀ H, ACalls Tryd.prog R 11 [] H fun v H' => H' = H ∧ v = .bool true) (hr : 0 ≤ r ∧ r < 256) (hs : Sl R 1 a L) (hi : Ints L) :
    ACalls Tryd.prog R 8 [.int .u8 r, a, .int .i64 x] [] fun v _ => v = .bool true := by
  obtain ⟨r, rfl⟩ : ∃ m : Nat, r = m := ⟨r.toNat, by omega⟩
  have hlen : (a = .nilslice ∧ L.length = 0) ∨ ∃ b off cap, a = .slice (.ro b) off L.length (.known cap) := by
    rcases hs with ⟨h, hL⟩ | ⟨b, off, cap, h, _⟩
    · exact .inl ⟨h, by simp [hL]⟩
    · exact .inr ⟨b, off, cap, h⟩
  obtain ⟨n, hn⟩ : ∃ n, n = 1 + r % 64 := ⟨_, rfl⟩
  have hn1 : 1 ≤ n := by omega
  have hn2 : n ≤ 64 := by omega
  obtain ⟨m, hm⟩ : ∃ m, m = r % 64 := ⟨_, rfl⟩
  have hrem := remU8 r
  rw [← hm] at hrem hn
  have hcv : IntKind.i64.wrap (m : Int) = (m : Int) := i64_small _ (by omega) (by omega)
  have hcv2 : IntKind.i64.wrap (1 + (m : Int)) = (n : Int) := by rw [i64_small _ (by omega) (by omega), hn]; push_cast; rfl
  have hmay : RankMay (n : Int) 0 := ⟨by omega, by omega, by omega, by omega, by simp; omega⟩
  refine ACalls.of_wpE Fns.ok8 (by simp [Fns.a8]) ?_
  simp [Fns.a8]
  refine (haw []).mono ?_
  rintro v H' ⟨rfl, rfl⟩
  by_cases hbig : 500 < L.length
  · have hbig' : (500 : Int) < (L.length : Int) := by omega
    rcases hlen with ⟨rfl, h0⟩ | ⟨b, off, cap, rfl⟩
    · omega
    · simp [hbig, hbig']
  have hbig' : ¬ (500 : Int) < (L.length : Int) := by omega
  refine (?_ : _ → _) hlen
  rintro (⟨ha, hL0⟩ | ⟨b0, off0, cap0, ha⟩) <;>
  · simp [ha, hrem, hcv, hcv2, hbig, hbig']
    refine (rank_sure hT _ _ _ hmay).mono ?_
    rintro v H1 ⟨k1, l, p, q, rfl, hin, _, _, _⟩
    simp
    refine (new_in hn1 hn2 (by simpa using hin)).mono ?_
    rintro v H2 ⟨k2, rfl, hl2, hI⟩
    simp
    have hin2 := hin.frame (H' := H2) (fun i hi => k2.2 i (by
      rcases hi with rfl | rfl | rfl
      · exact (List.getElem?_eq_some_iff.1 hin.box).1
      · exact (List.getElem?_eq_some_iff.1 hin.pu).1
      · exact (List.getElem?_eq_some_iff.1 hin.qd).1))
    refine (new_in hn1 hn2 (by simpa using hin2)).mono ?_
    rintro v H3 ⟨k3, rfl, hl3, hJ⟩
    have hI3 : IdsIn H3 (H1.length + 1) H1.length n (fun _ => 0) := hI.frame (k3.2 _ (by omega)) (k3.2 _ (by omega))
    simp
    refine AWp.loop (fun e H => AInv r a x L (H1.length + 1) H1.length (H2.length + 1) H2.length n e H) (fun e _ => match e 11 with | .int _ i => ((L.length : Int) - i).toNat | _ => 0) ⟨0, fun _ => 0, fun _ => 0, rfl, by rw [ha]; rfl, rfl, rfl, rfl, rfl, by omega, hI3, hJ, by omega, by omega, by omega, by simp, by simp, fun _ => rfl⟩ ?_
    rintro e H ⟨i, f, g, h0, h1, h2, h9, h10, h11, hiL, hI, hJ, hd1, hd2, hjj, hf, hg, hfg⟩
    clear hl2 k2 hin k1 hl3 k3 hI3 hin2
    generalize H1.length + 1 = d1 at *
    generalize H1.length = j1 at *
    generalize H2.length + 1 = d2 at *
    generalize H2.length = j2 at *
    have hf' : ∀ x, 0 ≤ f x ∧ f x ≤ 1000 := fun x => ⟨(hf x).1, by have := (hf x).2; omega⟩
    have hg' : ∀ x, 0 ≤ g x ∧ g x ≤ 1000 := fun x => ⟨(hg x).1, by have := (hg x).2; omega⟩
    refine wpE_sound _ ?_
    by_cases hlt : i < L.length
    · obtain ⟨b, off, cap, ha', hcell⟩ := hs.at hlt
      obtain ⟨z, hzv⟩ := hi.get hlt
      have hR0 : R b (off + i) = some (.int .i64 z) := by have := hcell 0 (.int .i64 z) (by simp [hzv]); simpa using this
      have hlt' : (i : Int) < (L.length : Int) := by omega
      have hw1 := i64_small ((i : Int) + 1) (by omega) (by omega)
      rw [ha'] at h1
      simp [h0, h1, h2, h9, h10, h11, hlt, hlt', hR0]
      refine (next_in hI hf' z).mono ?_
      rintro v H3 (⟨hl, rfl, hI3, hlen3, hfr⟩ | ⟨hl, rfl, rfl⟩)
      · have hJ3 : IdsIn H3 d2 j2 n g := hJ.frame (hfr _ hd2) (hfr _ (Ne.symm hjj))
        have hfu : ∀ y, 0 ≤ upd f z.toNat y ∧ upd f z.toNat y ≤ (i + 1 : Nat) := fun y => by
          have := hf y
          have := hf z.toNat
          unfold upd
          split <;> omega
        have hgu : ∀ y, 0 ≤ g y ∧ g y ≤ (i + 1 : Nat) := fun y => by have := hg y; omega
        by_cases hzx : z = x
        · subst hzx
          simp [h0, h1, h2, h9, h10, h11, hR0, hlt, hlt']
          refine (next_in hJ3 hg' z).mono ?_
          rintro v H4 (⟨_, rfl, hJ4, hlen4, hfr4⟩ | ⟨hl', _, _⟩)
          · have hI4 : IdsIn H4 d1 j1 n (upd f z.toNat) := hI3.frame (hfr4 _ hd1) (hfr4 _ hjj)
            have hgu : ∀ y, 0 ≤ upd g z.toNat y ∧ upd g z.toNat y ≤ (i + 1 : Nat) := fun y => by
              have := hg y
              have := hg z.toNat
              unfold upd
              split <;> omega
            have hfg' := hfg hl
            simp [h0, h1, h2, h9, h10, h11, hfg', hw1, eqEv]
            exact ⟨⟨i + 1, _, _, by simp [h0], by simp [h1, ha'], by simp [h2], by simp [h9], by simp [h10], by simp, by omega, hI4, hJ4, hd1, hd2, hjj, hfu, hgu, fun _ => by simp [upd, hfg']⟩, by omega⟩
          · rw [hl] at hl'; cases hl'
        · simp [h0, h1, h2, h9, h10, h11, hR0, hlt, hlt', hzx, hw1]
          refine ⟨⟨i + 1, _, _, by simp [h0], by simp [h1, ha'], by simp [h2], by simp [h9], by simp [h10], by simp, by omega, hI3, hJ3, hd1, hd2, hjj, hfu, hgu, ?_⟩, by omega⟩
          intro hx
          simp only [isL, Bool.and_eq_true, decide_eq_true_eq] at hx hl
          have hne : ¬ x.toNat = z.toNat := by omega
          simp [upd, hne, hfg (by simp only [isL, Bool.and_eq_true, decide_eq_true_eq]; exact hx)]
      · have hfu : ∀ y, 0 ≤ f y ∧ f y ≤ (i + 1 : Nat) := fun y => by have := hf y; omega
        have hgu : ∀ y, 0 ≤ g y ∧ g y ≤ (i + 1 : Nat) := fun y => by have := hg y; omega
        by_cases hzx : z = x
        · subst hzx
          simp [h0, h1, h2, h9, h10, h11, hR0, hlt, hlt']
          refine (next_in hJ hg' z).mono ?_
          rintro v H4 (⟨hl', _⟩ | ⟨_, rfl, rfl⟩)
          · rw [hl] at hl'; cases hl'
          · simp [h0, h1, h2, h9, h10, h11, hw1, eqEv]
            exact ⟨⟨i + 1, f, g, by simp [h0], by simp [h1, ha'], by simp [h2], by simp [h9], by simp [h10], by simp, by omega, hI, hJ, hd1, hd2, hjj, hfu, hgu, hfg⟩, by omega⟩
        · simp [h0, h1, h2, h9, h10, h11, hR0, hlt, hlt', hzx, hw1]
          exact ⟨⟨i + 1, f, g, by simp [h0], by simp [h1, ha'], by simp [h2], by simp [h9], by simp [h10], by simp, by omega, hI, hJ, hd1, hd2, hjj, hfu, hgu, hfg⟩, by omega⟩
    · obtain rfl : i = L.length := by omega
      have hnl : ¬ (L.length : Int) < 0 := by omega
      simp [h0, h1, ha, h2, h9, h10, h11, hnl]
      refine (given_in hI hf' x).mono ?_
      rintro v H5 ⟨rfl, rfl⟩
      simp [h2, h9, h10]
      refine (given_in hJ hg' x).mono ?_
      rintro v H5 ⟨rfl, rfl⟩
      cases hx : isL n x with
      | true => simp [hfg hx]
      | false => simp
end Go.Proofs.YtgdmalobagncpaaDoor.Cnt
