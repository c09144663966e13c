/- BuffersPlay: what the law's code computes. -/
import Derived.Test.YtjncbipaikmogaaDoorBfGreat
namespace Go.Proofs.YtjncbipaikmogaaDoor.Bf
open Go Go.RowKit Am Latt
set_option maxRecDepth 100000
set_option linter.unusedSimpArgs false
set_option linter.unusedVariables false
attribute [-simp] Am.binEv Am.intBin Am.read1
attribute [local simp] binEv_lss binEv_leq binEv_gtr binEv_geq binEv_eql binEv_neq binEv_add binEv_sub binEv_mul binEv_shr58 read1_ro read1_mu
variable {R : Ro}
theorem ansT_good {T : List (List Bool)} : ansT T = 0 ↔ GoodT T := by
  unfold ansT
  split
  · rename_i g; exact ⟨fun _ => g, fun _ => rfl⟩
  · rename_i g; exact ⟨fun h => absurd h (errT_ne T), fun h => absurd h g⟩
def PInv (b w l p q : Nat) (tv : AV) (T : List (List Bool)) (c : AV) (A : List Act) (e : Env) (H : AH) : Prop :=
  ∃ (i : Nat) (W : List TT), e 0 = tv ∧ e 1 = c ∧ e 7 = .ptr (.mu b) 0 ∧ e 8 = .ptr (.mu w) 0 ∧ e 9 = .int .i64 i ∧ i ≤ A.length ∧ PP H b w l p q tv T (absL T.length W) W (2 * i)
set_option maxHeartbeats 8000000 in
theorem plays (hT : HasTab R) (haw : ∀ H, ACalls Tryd.prog R 6 [] H fun v H' => H' = H ∧ v = .bool true) {tv : AV} {T : List (List Bool)} (hgr : Grid R tv T) {c : AV} {A : List Act} (hA : Acts R c A) :
    ACalls Tryd.prog R 3 [tv, c] [] fun v _ => v = .bool true := by
  have ht : ∀ H, TabIn R H tv T := fun H => grid_tab hgr H
  have hone : tv.oneCell = true := by
    rcases hgr with ⟨rfl, _⟩ | ⟨b, off, cap, rfl, _⟩ <;> rfl
  refine ACalls.of_wpE Fns.ok3 (by simp [Fns.a3]) ?_
  simp [Fns.a3]
  refine (haw _).mono ?_
  rintro v H ⟨rfl, rfl⟩
  simp
  refine (great_ok (ht _) hA).mono ?_
  rintro v H ⟨rfl, gb, rfl, hb⟩
  cases gb with
  | true => simp
  | false =>
    have hA1 := hb rfl
    simp
    refine (rnew_ok (ht _)).mono ?_
    rintro v H ⟨rfl, rfl⟩
    by_cases gd : GoodT T
    · have g1 := gd.lo
      have g2 := gd.hi
      simp [ansT_good.2 gd]
      refine (Latt.new_ok hT _ tv T (ht _) (grid_len hgr)).mono ?_
      rintro v H1 ⟨k1, ⟨_, l, p, q, rfl, hin, _, _, _⟩ | ⟨ng, _⟩⟩
      · simp
        refine (Bf.new_ok (R := R) (hin.at g1 g2)).mono ?_
        rintro v H2 ⟨rfl, hAt, k2, hown⟩
        have hin2 := hin.frame (H' := H2) fun i hi => k2.2 i (lat_lt hin i hi)
        have hbld : fillA [(0, 1), (1, 1)] [AV.nilslice, AV.nilslice] [(0, tv)] = some [tv, .nilslice] := by
          rcases hgr with ⟨rfl, _⟩ | ⟨b, off, cap, rfl, _⟩ <;> rfl
        have hS0 : S0 (upT T).length = absL T.length [] := by rw [absL_nil, upT_len]
        rw [hS0] at hAt
        have hPP : PP (H2 ++ [.cells [tv, .nilslice] 36]) (H1.length + 1) H2.length l p q tv T (absL T.length []) [] (2 * 0) := ⟨hin2.frame fun i hi => (Keeps.app H2 _).2 i (lat_lt hin2 i hi), ⟨_, _, _, _, Own.keeps hAt (Keeps.app H2 _), ⟨by simp, .inl ⟨rfl, rfl, rfl⟩⟩⟩, by rw [absL_nil]; exact S0_ok _, (fun t h => by cases h), by simp⟩
        generalize H1.length + 1 = bb at hPP
        simp only [AV.oneCell] at hone
        simp [eqEv, hbld, hone]
        refine AWp.loop (fun e H => PInv bb H2.length l p q tv T c A e H) (fun e _ => match e 9 with | .int _ i => ((A.length : Int) - i).toNat | _ => 0) ⟨0, [], rfl, rfl, rfl, rfl, rfl, by omega, hPP⟩ ?_
        generalize H2.length = w
        rintro e H ⟨i, W, h0, h1, h7, h8, h9, hi, hW⟩
        refine wpE_sound _ ?_
        by_cases hlt : i < A.length
        · obtain ⟨b, off, cap, hc', r0, r1, r2, r3⟩ := hA.at hlt
          have hlt' : (i : Int) < (A.length : Int) := by omega
          have hw1 := i64_small ((i : Int) + 1) (by omega) (by omega)
          rw [hc'] at h1
          have fin : ∀ (H' : AH) (W' : List TT) (k : Nat), k ≤ 2 * (i + 1) → PP H' bb w l p q tv T (absL T.length W') W' k → ∀ e' : Env, e' 0 = tv → e' 1 = c → e' 7 = .ptr (.mu bb) 0 → e' 8 = .ptr (.mu w) 0 → e' 9 = .int .i64 ((i : Int) + 1) → PInv bb w l p q tv T c A e' H' :=
            fun H' W' k hk hW' e' g0 g1 g7 g8 g9 => ⟨i + 1, W', g0, g1, g7, g8, by rw [g9]; simp, by omega, hW'.more hk⟩
          generalize A[i] = ac at r0 r1 r2 r3
          by_cases hd0 : ac.1 = 0
          · have hpe := put_eq (n := T.length) W ac.2.1 ac.2.2.2
            simp [h0, h1, h7, h8, h9, hlt, hlt', r0, hd0]
            refine AWp.sched [0, 1, 2, 3, 4, 5, 6, 7, 8, 9, 10, 11, 12, 13, 14, 15, 16] Fns.mixed (by decide +kernel) ?_
            simp [h0, h1, h7, h8, h9, hlt, hlt', r0, r1, r2, r3, hd0]
            refine (hW.put (by omega) _ _).mono ?_
            rintro v H5 ⟨rfl, hW1⟩
            rw [hpe] at hW1 ⊢
            simp [h0, h1, h7, h8, h9, hlt, hlt', r0, r1, r2, r3, hd0, recheck]
            refine AWp.sched [0, 1, 2, 3, 4, 5, 6, 7, 8, 9, 10, 11, 12, 13, 14, 15, 16] Fns.mixed (by decide +kernel) ?_
            simp [h0, h1, h7, h8, h9, hlt, hlt', r0, r1, r2, r3, hd0]
            refine (hW1.rput ht (by simp only [AV.oneCell]; exact hone) (by omega) _ _).mono ?_
            rintro v H6 ⟨rfl, hW2⟩
            simp [h0, h1, h7, h8, h9, hlt, hlt', r0, r1, r2, r3, hd0, recheck]
            refine AWp.sched [0, 1, 2, 3, 4, 5, 6, 7, 8, 9, 10, 11, 12, 13] Fns.mixed (by decide +kernel) ?_
            simp [h0, h1, h7, h8, h9, hlt, hlt', r0, r1, r2, r3, hd0]
            refine (tells_ok hW2 ht gd (by omega) _ _).mono ?_
            rintro v H7 ⟨rfl, hK⟩
            have hfin := fin H7 _ _ (by omega) (hW2.keeps hK)
            simp [h0, h1, h7, h8, h9, hlt, hlt', r0, r1, r2, r3, hd0, recheck, hw1]
            exact ⟨hfin _ (by simp [h0]) (by simp [h1, hc']) (by simp [h7]) (by simp [h8]) (by simp), by omega⟩
          · by_cases hd1 : ac.1 = 1
            · have hde := drop_eq hW.ok ac.2.1 ac.2.2.1
              simp [h0, h1, h7, h8, h9, hlt, hlt', r0, hd1]
              refine AWp.sched [0, 1, 2, 3, 4, 5, 6, 7, 8, 9, 10, 12, 13, 14, 15, 16, 17, 18, 19, 20, 21, 22, 11, 23, 24] Fns.mixed (by decide +kernel) ?_
              simp [h0, h1, h7, h8, h9, hlt, hlt', r0, r1, r2, r3, hd1]
              refine (hW.drop _ _).mono ?_
              rintro v H5 ⟨rfl, hW1⟩
              rw [hde] at hW1 ⊢
              simp [h0, h1, h7, h8, h9, hlt, hlt', r0, r1, r2, r3, hd1, recheck]
              refine (hW1.rdrop ht (by omega) _ _).mono ?_
              rintro v H6 ⟨rfl, hW2⟩
              simp [h0, h1, h7, h8, h9, hlt, hlt', r0, r1, r2, r3, hd1, recheck]
              refine AWp.sched [0, 1, 2, 3, 4, 5, 6, 7, 8, 9, 10, 11, 12, 13] Fns.mixed (by decide +kernel) ?_
              simp [h0, h1, h7, h8, h9, hlt, hlt', r0, r1, r2, r3, hd1]
              refine (tells_ok hW2 ht gd (by omega) _ _).mono ?_
              rintro v H7 ⟨rfl, hK⟩
              have hfin := fin H7 _ _ (by omega) (hW2.keeps hK)
              simp [h0, h1, h7, h8, h9, hlt, hlt', r0, r1, r2, r3, hd1, recheck, hw1]
              exact ⟨hfin _ (by simp [h0]) (by simp [h1, hc']) (by simp [h7]) (by simp [h8]) (by simp), by omega⟩
            · simp [h0, h1, h7, h8, h9, hlt, hlt', r0, hd0, hd1]
              refine AWp.sched [0, 1, 2, 3, 4, 5, 6, 7, 8, 9, 10, 11, 12, 13] Fns.mixed (by decide +kernel) ?_
              simp [h0, h1, h7, h8, h9, hlt, hlt', r0, r1, r2, r3, hd0]
              refine (tells_ok hW ht gd (by omega) _ _).mono ?_
              rintro v H7 ⟨rfl, hK⟩
              have hfin := fin H7 _ _ (by omega) (hW.keeps hK)
              simp [h0, h1, h7, h8, h9, hlt, hlt', r0, r1, r2, r3, hd0, recheck, hw1]
              exact ⟨hfin _ (by simp [h0]) (by simp [h1, hc']) (by simp [h7]) (by simp [h8]) (by simp), by omega⟩
        · obtain rfl : i = A.length := by omega
          have hnl : ¬ (A.length : Int) < 0 := by omega
          have lens : (AOp.lenL (.t 0)).eval Tryd.prog R (fun _ => tv) H = some (.int .i64 T.length, H) := by
            rcases (ht H).lenEv with ⟨rfl, hz⟩ | ⟨l, off, cap, rfl⟩
            · simp [hz]
            · simp
          have hm1 : IntKind.i64.wrap (-1) = -1 := by decide
          rcases hA.len with ⟨hc, hA0⟩ | ⟨b, off, cap, hc⟩ <;>
          · rw [hc] at h1
            simp [h0, h1, h7, h8, h9, hnl]
            refine AWp.loop (fun e H => e 0 = tv ∧ e 7 = .ptr (.mu bb) 0 ∧ e 8 = .ptr (.mu w) 0 ∧ PP H bb w l p q tv T (absL T.length W) W (2 * A.length) ∧ ∃ a : Nat, e 14 = .int .i64 ((a : Int) - 1) ∧ a ≤ T.length + 2) (fun e _ => match e 14 with | .int _ i => ((T.length : Int) + 2 - i).toNat | _ => 0) ⟨by simp [h0], by simp [h7], by simp [h8], hW, 0, by simp, by omega⟩ ?_
            rintro e H ⟨h0, h7, h8, hW, a, h14, ha⟩
            refine wpE_sound _ ?_
            have lens : (AOp.lenL (.t 0)).eval Tryd.prog R (fun _ => tv) H = some (.int .i64 T.length, H) := by
              rcases (ht H).lenEv with ⟨rfl, hz⟩ | ⟨l, off, cap, rfl⟩
              · simp [hz]
              · simp
            simp only [AOp.eval, X.ev] at lens
            by_cases hal : a ≤ T.length + 1
            · have hal' : (a : Int) - 1 ≤ (T.length : Int) := by omega
              have hw1 := i64_small (a : Int) (by omega) (by omega)
              simp [h0, h7, h8, h14, lens, hal']
              refine AWp.loop (fun e' H' => e' 0 = tv ∧ e' 7 = .ptr (.mu bb) 0 ∧ e' 8 = .ptr (.mu w) 0 ∧ e' 14 = .int .i64 ((a : Int) - 1) ∧ PP H' bb w l p q tv T (absL T.length W) W (2 * A.length) ∧ ∃ m : Nat, e' 15 = .int .i64 ((m : Int) - 1) ∧ m ≤ 13) (fun e _ => match e 15 with | .int _ i => (13 - i).toNat | _ => 0) ⟨by simp [h0], by simp [h7], by simp [h8], by simp [h14], hW, 0, by simp, by omega⟩ ?_
              rintro e' H' ⟨g0, g7, g8, g14, gW, m, g15, hm⟩
              refine wpE_sound _ ?_
              by_cases hml : m < 13
              · have hml' : (m : Int) - 1 < 12 := by omega
                have hw2 := i64_small (m : Int) (by omega) (by omega)
                simp [g0, g7, g8, g14, g15, hml']
                refine (tells_ok gW ht gd (by omega) _ _).mono ?_
                rintro v H7 ⟨rfl, hK⟩
                simp [g0, g7, g8, g14, g15, hw2]
                exact ⟨⟨gW.keeps hK, m + 1, by omega, by omega⟩, by omega⟩
              · have hml' : ¬ (m : Int) - 1 < 12 := by omega
                simp [g0, g7, g8, g14, g15, hml', hw1]
                exact ⟨⟨gW, a + 1, by omega, by omega⟩, by omega⟩
            · have hal' : ¬ (a : Int) - 1 ≤ (T.length : Int) := by omega
              simp [h0, h7, h8, h14, lens, hal']
      · exact absurd gd ng
    · have hne : ¬ ansT T = 0 := fun h => gd (ansT_good.1 h)
      simp [hne]
end Go.Proofs.YtjncbipaikmogaaDoor.Bf
