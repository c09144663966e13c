/- The document's name of a text: what its code computes. -/
import Derived.Test.YtgdmalobagncpaaDoorIdRef
namespace Go.Proofs.YtgdmalobagncpaaDoor.Id
open Go Go.RowKit Am
set_option maxRecDepth 100000
set_option linter.unusedSimpArgs false
set_option linter.unusedVariables false
attribute [-simp] Am.binEv Am.intBin Am.read1
attribute [local simp] binEv_lss binEv_leq binEv_gtr binEv_geq binEv_eql binEv_neq binEv_add binEv_sub binEv_mul binEv_shr58 read1_ro read1_mu binEv_seql binEv_sneq
variable {R : Ro}
def refQ (s : List UInt8) (v : AV) : Prop := match refF s with
  | some (a, b, c) => v = .tuple [.int .i64 (a : Int), .int .i64 (b : Int), .int .i64 (c : Int), .bool true]
  | none => v = .tuple [.int .i64 0, .int .i64 0, .int .i64 0, .bool false]
theorem num_bound {r : List UInt8} {n k : Nat} (h : numD r = some (n, k)) : k ≤ r.length := by
  obtain ⟨_, h2, h3, _⟩ := num_some h
  rw [h2]
  have := congrArg List.length h3
  rw [List.length_append] at this
  omega
theorem u8_ne {c : UInt8} {k : Nat} (hk : k < 256) (h : ¬ c = UInt8.ofNat k) : ¬ (c.toNat : Int) = (k : Int) := fun e => h (by
  have e2 : c.toNat = k := by omega
  rw [← UInt8.ofNat_toNat (x := c), e2])
theorem numQ_some {s : List UInt8} {p n k : Nat} {v : AV} (h : numQ s p v) (hn : numD (s.drop p) = some (n, k)) : v = .tuple [.int .i64 (n : Int), .int .i64 ((p + k : Nat) : Int)] := by unfold numQ at h; rw [hn] at h; exact h
theorem numQ_none {s : List UInt8} {p : Nat} {v : AV} (h : numQ s p v) (hn : numD (s.drop p) = none) : ∃ q : Int, v = .tuple [.int .i64 (-1), .int .i64 q] := by unfold numQ at h; rw [hn] at h; exact h
/-- What is at a place, and behind it. -/
theorem at_drop (S : List UInt8) (m : Nat) : (S.drop m = [] ∧ S.length ≤ m) ∨ ∃ d T, S.drop m = d :: T ∧ S.drop (m + 1) = T ∧ m < S.length ∧ S[m]? = some d ∧ ∀ h, S[m]'h = d := by
  by_cases h : m < S.length
  · exact .inr ⟨S[m], S.drop (m + 1), List.drop_eq_getElem_cons h, rfl, h, List.getElem?_eq_getElem h, fun _ => rfl⟩
  · exact .inl ⟨List.drop_eq_nil_of_le (by omega), by omega⟩
theorem numDot_none {r : List UInt8} (h : numD r = none) : numDot r = none := by unfold numDot; rw [h]
theorem numDot_end {r : List UInt8} {n k : Nat} (h : numD r = some (n, k)) (he : r.drop k = []) : numDot r = none := by unfold numDot; rw [h]; dsimp only; rw [he]
theorem numDot_not {r T : List UInt8} {n k : Nat} {d : UInt8} (h : numD r = some (n, k)) (he : r.drop k = d :: T) (hd : d ≠ 46) : numDot r = none := by
  unfold numDot
  rw [h]
  dsimp only
  rw [he]
  split
  · rename_i e; cases e; exact absurd rfl hd
  · rfl
theorem numDot_dot {r T : List UInt8} {n k : Nat} (h : numD r = some (n, k)) (he : r.drop k = 46 :: T) : numDot r = some (n, T) := by unfold numDot; rw [h]; dsimp only; rw [he]; rfl
set_option maxHeartbeats 4000000 in
theorem rparse (S : List UInt8) (hs : S.length ≤ 2000) (H : AH) : ACalls Tryd.prog R 13 [.str S] H fun v H' => refQ S v ∧ H' = H := by
  refine ACalls.of_wpE Fns.ok13 (by simp [Fns.a13]) ?_
  rcases at_drop S 0 with ⟨he, hl⟩ | ⟨c0, r, he, hr, hl, hg, hg'⟩
  · have hS : S = [] := by simpa using he
    subst hS
    simp [Fns.a13, refQ, refF]
  · have hSr : S = c0 :: r := by simpa using he
    have hne : ¬ S = [] := by rw [hSr]; simp
    have hl0 : ¬ (S.length : Int) = 0 := by omega
    have hl0' : ¬ S.length = 0 := by omega
    by_cases hc : c0 = 112
    · subst hc
      have hF : refF S = match numDot r with
          | some (a, r2) => match numDot r2 with
            | some (b, r3) => match numD r3 with
              | some (c, k) => if k = r3.length then some (a, b, c) else none
              | none => none
            | none => none
          | none => none := by rw [hSr]; rfl
      simp [Fns.a13, hl0, hl0', hne, hg, hg']
      refine (rnumber S (by omega) 1 (by omega) _).mono ?_
      rintro v H1 ⟨rfl, hv⟩
      cases hn1 : numD r with
      | none =>
        obtain ⟨q, rfl⟩ := numQ_none hv (by rw [hr]; exact hn1)
        rw [numDot_none hn1] at hF
        simp [refQ, hF]
      | some nk =>
        obtain ⟨a, k1⟩ := nk
        obtain rfl := numQ_some hv (by rw [hr]; exact hn1)
        have ha := (num_some hn1).1
        have n1 : ¬ (a : Int) < 0 := by omega
        obtain ⟨m, hm⟩ : ∃ m, m = 1 + k1 := ⟨_, rfl⟩
        have hmd : S.drop m = r.drop k1 := by rw [hm, ← List.drop_drop, hr]
        rw [← hm]
        have hm0 : (0 : Int) ≤ (m : Int) := by omega
        rcases at_drop S m with ⟨he, hl⟩ | ⟨d, T, he, hT, hl, hg, hg'⟩
        · rw [numDot_end hn1 (by rw [← hmd]; exact he)] at hF
          have hle : (S.length : Int) ≤ (m : Int) := by omega
          simp [refQ, hF, n1, hl, hle]
        · have hle : ¬ (S.length : Int) ≤ (m : Int) := by omega
          have hle' : ¬ S.length ≤ m := by omega
          by_cases hd : d = 46
          · subst hd
            rw [numDot_dot hn1 (by rw [← hmd]; exact he)] at hF
            dsimp only at hF
            have hw1 : IntKind.i64.wrap ((m : Int) + 1) = (m : Int) + 1 := i64_ok _ (by omega) (by omega)
            simp [n1, hle, hle', hl, hg, hg', hm0, hw1]
            refine (rnumber S (by omega) (m + 1) (by omega) _).mono ?_
            rintro v H1 ⟨rfl, hv⟩
            cases hn2 : numD T with
            | none =>
              obtain ⟨q, rfl⟩ := numQ_none hv (by rw [hT]; exact hn2)
              rw [numDot_none hn2] at hF
              simp [refQ, hF]
            | some nk =>
              obtain ⟨b, k2⟩ := nk
              obtain rfl := numQ_some hv (by rw [hT]; exact hn2)
              have hb := (num_some hn2).1
              have n2 : ¬ (b : Int) < 0 := by omega
              obtain ⟨m2, hm2⟩ : ∃ m2, m2 = m + 1 + k2 := ⟨_, rfl⟩
              have hmd2 : S.drop m2 = T.drop k2 := by rw [hm2, ← List.drop_drop, hT]
              rw [← hm2]
              have hm20 : (0 : Int) ≤ (m2 : Int) := by omega
              rcases at_drop S m2 with ⟨he2, hl2⟩ | ⟨d2, T2, he2, hT2, hl2, hg2, hg2'⟩
              · rw [numDot_end hn2 (by rw [← hmd2]; exact he2)] at hF
                have hle2 : (S.length : Int) ≤ (m2 : Int) := by omega
                simp [refQ, hF, n2, hl2, hle2]
              · have hle2 : ¬ (S.length : Int) ≤ (m2 : Int) := by omega
                have hle2' : ¬ S.length ≤ m2 := by omega
                by_cases hd2 : d2 = 46
                · subst hd2
                  rw [numDot_dot hn2 (by rw [← hmd2]; exact he2)] at hF
                  dsimp only at hF
                  have hw2 : IntKind.i64.wrap ((m2 : Int) + 1) = (m2 : Int) + 1 := i64_ok _ (by omega) (by omega)
                  simp [n2, hle2, hle2', hl2, hg2, hg2', hm20, hw2]
                  refine (rnumber S (by omega) (m2 + 1) (by omega) _).mono ?_
                  rintro v H1 ⟨rfl, hv⟩
                  cases hn3 : numD T2 with
                  | none =>
                    obtain ⟨q, rfl⟩ := numQ_none hv (by rw [hT2]; exact hn3)
                    rw [hn3] at hF
                    simp [refQ, hF]
                  | some nk =>
                    obtain ⟨c, k3⟩ := nk
                    obtain rfl := numQ_some hv (by rw [hT2]; exact hn3)
                    have hc := (num_some hn3).1
                    have n3 : ¬ (c : Int) < 0 := by omega
                    rw [hn3] at hF
                    dsimp only at hF
                    obtain ⟨m3, hm3⟩ : ∃ m3, m3 = m2 + 1 + k3 := ⟨_, rfl⟩
                    rw [← hm3]
                    have hlT : T2.length = S.length - (m2 + 1) := by rw [← hT2, List.length_drop]
                    by_cases hend : k3 = T2.length
                    · rw [if_pos hend] at hF
                      have e1 : (m3 : Int) = (S.length : Int) := by omega
                      have e2 : m3 = S.length := by omega
                      simp [refQ, hF, n3, e1, e2]
                    · rw [if_neg hend] at hF
                      have e1 : ¬ (m3 : Int) = (S.length : Int) := by omega
                      have e2 : ¬ m3 = S.length := by omega
                      simp [refQ, hF, n3, e1, e2]
                · have hd2' : ¬ (d2.toNat : Int) = 46 := u8_ne (k := 46) (by omega) hd2
                  rw [numDot_not hn2 (by rw [← hmd2]; exact he2) hd2] at hF
                  simp [refQ, hF, n2, hle2, hle2', hl2, hg2, hg2', hm20, hd2']
          · have hd' : ¬ (d.toNat : Int) = 46 := u8_ne (k := 46) (by omega) hd
            rw [numDot_not hn1 (by rw [← hmd]; exact he) hd] at hF
            simp [refQ, hF, n1, hle, hle', hl, hg, hg', hm0, hd']
    · have hc' : ¬ (c0.toNat : Int) = 112 := u8_ne (k := 112) (by omega) hc
      have hF : refF S = none := by
        rw [hSr]
        unfold refF
        split
        · rename_i e; cases e; exact absurd rfl hc
        · rfl
      simp [Fns.a13, hl0, hl0', hne, hg, hg', hc', refQ, hF]
end Go.Proofs.YtgdmalobagncpaaDoor.Id
