/- AuditPlays: what the law's code computes. -/
import Derived.Test.YtkcddlpmekejkaaDoorAuPP
namespace Go.Proofs.YtkcddlpmekejkaaDoor.Au
open Go Go.RowKit Am Latt
set_option maxRecDepth 100000
set_option linter.unusedSimpArgs false
set_option linter.unusedVariables false
attribute [-simp] Am.binEv Am.intBin Am.read1
attribute [local simp] binEv_lss binEv_leq binEv_gtr binEv_geq binEv_eql binEv_neq binEv_add binEv_sub binEv_mul binEv_shr58 read1_ro read1_mu
variable {R : Ro}
theorem ansT_good {T : List (List Bool)} : ansT T = 0 ↔ GoodT T := by
  unfold ansT
  split
  · rename_i g; exact ⟨fun _ => g, fun _ => rfl⟩
  · rename_i g; exact ⟨fun h => absurd h (errT_ne T), fun h => absurd h g⟩
theorem writeN_last' (H : AH) (y : Ent) : writeN (H ++ [.cells [.int .i64 0, .int .i64 0, .int .i64 0, .str []] 40]) H.length 0 [.int .i64 y.1, .int .i64 y.2.1, .int .i64 y.2.2.1, .str y.2.2.2] = some (H ++ [.cells [.int .i64 y.1, .int .i64 y.2.1, .int .i64 y.2.2.1, .str y.2.2.2] 40]) := by
  unfold writeN
  simp [AO.content, AO.withContent, splice, AV.oneCell]
def PInv (g kg w l p q : Nat) (tv : AV) (T : List (List Bool)) (a : AV) (x : Int) (E : List Ent) (e : Env) (H : AH) : Prop :=
  ∃ (i : Nat) (F : List Ent), e 1 = a ∧ e 2 = .int .i64 x ∧ e 9 = .ptr (.mu g) 0 ∧ e 11 = .ptr (.mu w) 0 ∧ e 12 = .int .i64 i ∧ i ≤ E.length ∧ PP H g kg w l p q tv T F F (2 * i)
set_option maxHeartbeats 8000000 in
theorem plays (hT : HasTab R) (haw : ∀ H, ACalls Tryd.prog R 7 [] H fun v H' => H' = H ∧ v = .bool true) {tv : AV} {T : List (List Bool)} (hgr : Grid R tv T) {x : Int} {a : AV} {E : List Ent} (hE : Ents R a E) :
    ACalls Tryd.prog R 3 [tv, a, .int .i64 x] [] fun v _ => v = .bool true := by
  have hlen := hE.len
  have ht : ∀ H, TabIn R H tv T := fun H => grid_tab hgr H
  refine ACalls.of_wpE Fns.ok3 (by simp [Fns.a3]) ?_
  simp [Fns.a3]
  refine (haw _).mono ?_
  rintro v H' ⟨rfl, rfl⟩
  simp
  refine (great_ok (ht _) hE).mono ?_
  rintro v H' ⟨rfl, b, rfl, hb⟩
  cases b with
  | true => simp
  | false =>
    have hE1 := hb rfl
    simp
    refine (rnew_ok (ht _)).mono ?_
    rintro v H' ⟨rfl, rfl⟩
    by_cases gd : GoodT T
    · have g1 := gd.lo
      have g2 := gd.hi
      simp [ansT_good.2 gd]
      refine (new_ok hT _ tv T (ht _) (grid_len hgr)).mono ?_
      rintro v H1 ⟨k1, ⟨_, l, p, q, rfl, hin, _, _, _⟩ | ⟨ng, _⟩⟩
      · simp
        refine (new_at (R := R) (hin.at g1 g2) (upT_len T) g2).mono ?_
        rintro v H2 ⟨k2, g, kg, rfl, hG, hg1, hg2, hg3⟩
        have hin2 := hin.frame (H' := H2) fun i hi => k2.2 i (lat_lt hin i hi)
        have hPP : PP (H2 ++ [.cells [tv, .nilslice] 37]) g kg H2.length l p q tv T [] [] (2 * 0) := ⟨hin2.frame fun i hi => (Keeps.app H2 _).2 i (lat_lt hin2 i hi), ⟨_, _, hG.keeps (Keeps.app H2 _), ⟨by simp, .inl ⟨rfl, rfl, rfl⟩⟩, fun j hj hi => by
          have := hG.lt hj
          rcases hi with rfl | ⟨_, _, _, e⟩
          · omega
          · cases e⟩, hg3, by simp⟩
        have hone : tv.oneCell = true := by
          rcases hgr with ⟨rfl, _⟩ | ⟨b, off, cap, rfl, _⟩ <;> rfl
        simp only [AV.oneCell] at hone
        have hbld : fillA [(0, 1), (1, 1)] [AV.nilslice, AV.nilslice] [(0, tv)] = some [tv, .nilslice] := by
          rcases hgr with ⟨rfl, _⟩ | ⟨b, off, cap, rfl, _⟩ <;> rfl
        simp [eqEv, hbld, hone]
        refine AWp.loop (fun e H => PInv g kg H2.length l p q tv T a x E e H) (fun e _ => match e 12 with | .int _ i => ((E.length : Int) - i).toNat | _ => 0) ⟨0, [], rfl, rfl, rfl, rfl, rfl, by omega, hPP⟩ ?_
        rintro e H ⟨i, F, h1, h2, h9, h11, h12, hi, hW⟩
        refine wpE_sound _ ?_
        by_cases hlt : i < E.length
        · obtain ⟨b, off, cap, ha, r0, r1, r2, r3, hrd⟩ := hE.at hlt
          have hlt' : (i : Int) < (E.length : Int) := by omega
          have hw1 := i64_small ((i : Int) + 1) (by omega) (by omega)
          rw [ha] at h1
          generalize E[i] = en at *
          have hrd' := hrd
          simp only [cellsE] at hrd'
          have hput := hW.putg (R := R) g1 g2 (by omega) en
          simp only [cellsE] at hput
          simp [h1, h2, h9, h11, h12, hlt, hlt', r0, hrd']
          refine AWp.sched [0, 1, 2, 3, 4, 6, 7, 8, 9, 10, 5, 11, 12, 13, 14, 15, 16, 17, 18, 19, 21, 22, 23, 24, 25, 26, 20, 27, 28, 29, 30, 31, 33, 34, 35, 36, 37, 32, 38, 39] Fns.mixed (by decide +kernel) ?_
          simp [h1, h2, h9, h11, h12, hlt, hlt', r0, hrd']
          refine hput.mono ?_
          rintro v H5 ⟨rfl, hc5⟩
          rcases hc5 with ⟨hne, hW5⟩ | ⟨h0, hW5⟩
          · have hput2 := hW5.putw (R := R) ht gd (by omega) en
            simp only [cellsE] at hput2
            simp [h1, h2, h9, h11, h12, hlt, hlt', r0, hrd', recheck]
            refine hput2.mono ?_
            rintro v H6 ⟨rfl, ⟨_, hW6⟩ | ⟨h06, _⟩⟩
            · simp [h1, h2, h9, h11, h12, hlt, hlt', r0, hrd', recheck]
              refine (hW6.roomg (by omega) _).mono ?_
              rintro v H7 ⟨rfl, rfl⟩
              simp [h1, h2, h9, h11, h12, hlt, hlt', r0, hrd', recheck]
              refine (hW6.roomw ht (by omega) _).mono ?_
              rintro v H8 ⟨rfl, rfl⟩
              obtain ⟨rvw, hWw⟩ := hW6.logw
              have hbw := hWw.box
              rcases hWw.rowc with ⟨rfl, hF0⟩ | ⟨j2, rfl, _⟩ <;>
              · simp [h1, h2, h9, h11, h12, hlt, hlt', r0, hrd', recheck, eqEv, hbw]
                refine hW6.len.mono ?_
                rintro v H9 ⟨rfl, rfl⟩
                first
                | simp [h1, h2, h9, h11, h12, hlt, hlt', r0, hrd', recheck, eqEv, hbw, hw1, hF0]
                | simp [h1, h2, h9, h11, h12, hlt, hlt', r0, hrd', recheck, eqEv, hbw, hw1]
                exact ⟨⟨i + 1, F, by simp [h1, ha], by simp [h2], by simp [h9], by simp [h11], by simp, by omega, hW6.weak (by omega)⟩, by omega⟩
            · exact absurd h06 hne
          · have hput2 := hW5.putw (R := R) ht gd (by omega) en
            simp only [cellsE] at hput2
            simp [h1, h2, h9, h11, h12, hlt, hlt', r0, hrd', recheck, h0]
            refine hput2.mono ?_
            rintro v H6 ⟨rfl, ⟨hne6, _⟩ | ⟨_, hW6⟩⟩
            · exact absurd h0 hne6
            · simp [h1, h2, h9, h11, h12, hlt, hlt', r0, hrd', recheck, h0]
              refine (hW6.roomg (by omega) _).mono ?_
              rintro v H7 ⟨rfl, rfl⟩
              simp [h1, h2, h9, h11, h12, hlt, hlt', r0, hrd', recheck]
              refine (hW6.roomw ht (by omega) _).mono ?_
              rintro v H8 ⟨rfl, rfl⟩
              obtain ⟨rvw, hWw⟩ := hW6.logw
              have hbw := hWw.box
              rcases hWw.rowc with ⟨rfl, hF0⟩ | ⟨j2, rfl, _⟩
              · simp at hF0
              · simp [h1, h2, h9, h11, h12, hlt, hlt', r0, hrd', recheck, eqEv, hbw]
                refine hW6.len.mono ?_
                rintro v H9 ⟨rfl, rfl⟩
                simp [h1, h2, h9, h11, h12, hlt, hlt', r0, hrd', recheck, eqEv, hbw, hw1]
                exact ⟨⟨i + 1, F ++ [en], by simp [h1, ha], by simp [h2], by simp [h9], by simp [h11], by simp, by omega, hW6.weak (by omega)⟩, by omega⟩
        · obtain rfl : i = E.length := by omega
          have hnl : ¬ (E.length : Int) < 0 := by omega
          rcases hlen with ⟨ha, hE0⟩ | ⟨b, off, cap, ha⟩ <;>
          · rw [ha] at h1
            simp [h1, h2, h9, h11, h12, hnl]
            have hFl := hW.les.1
            refine AWp.loop (fun e H1 => e 2 = .int .i64 x ∧ e 9 = .ptr (.mu g) 0 ∧ e 11 = .ptr (.mu H2.length) 0 ∧ ∃ j : Nat, e 14 = .int .i64 j ∧ j ≤ F.length ∧ RowOwn H H1 (e 13) j 4 40 (flat (F.take j)))
              (fun e _ => match e 14 with | .int _ i => ((F.length : Int) - i).toNat | _ => 0) ⟨by simp [h2], by simp [h9], by simp [h11], 0, rfl, by omega, by simpa [flat] using RowOwn.nil H 4 40⟩ ?_
            rintro e H1 ⟨h2, h9, h11, j, h14, hj, hrow⟩
            refine wpE_sound _ ?_
            have hW1 := hW.keeps hrow.keeps
            simp [h2, h9, h11, h14]
            refine hW1.len.mono ?_
            rintro v H5 ⟨rfl, rfl⟩
            by_cases hjl : j < F.length
            · have hjl' : (j : Int) < (F.length : Int) := by omega
              have hj2 : (j : Int) < 200 := by omega
              have hw1 := i64_small ((j : Int) + 1) (by omega) (by omega)
              obtain ⟨y, hy⟩ : ∃ y, F[j]? = some y := ⟨_, List.getElem?_eq_getElem hjl⟩
              have hat := hW1.atY (R := R) hy
              have hwl := writeN_last' H5 y
              have htk : F.take (j + 1) = F.take j ++ [y] := by rw [List.take_add_one, hy]; rfl
              obtain ⟨G, hG, hrow2, _, _⟩ := (hrow.more (Keeps.app H5 [.cells (cellsE y) 40])).push (R := R) (by' := 40) (t' := 40) (new := cellsE y) (by omega) (by omega) (by omega) (by simp [cellsE, AV.oneCell]) rfl (.known 1)
              simp only [cellsE] at hat hG
              simp only [List.append_assoc, List.cons_append, List.nil_append, List.length_append, List.length_cons, List.length_nil, Nat.zero_add] at hG hrow2
              simp [h2, h9, h11, h14, hjl, hjl', hj2]
              refine hat.mono ?_
              rintro v H6 ⟨rfl, rfl⟩
              simp [h2, h9, h11, h14, hwl, fillA, splice, zerosEv, AV.oneCell, hG, hw1]
              exact ⟨⟨j + 1, by simp, by omega, by rw [htk, flat_app, flat_one]; simpa using hrow2⟩, by omega⟩
            · obtain rfl : j = F.length := by omega
              rw [List.take_length] at hrow
              have hz1 := writeN_last' H5 (0, 0, 0, [])
              have hz2 := writeN_last' (H5 ++ [.cells [.int .i64 0, .int .i64 0, .int .i64 0, .str []] 40]) (0, 0, 0, [])
              have ha1 := hW1.atN (R := R) (i := (F.length : Int)) (.inr (by omega))
              have ha2 := (hW1.keeps (Keeps.app H5 [.cells [.int .i64 0, .int .i64 0, .int .i64 0, .str []] 40])).atN (R := R) (i := -1) (.inl (by omega))
              simp only [cellsE] at ha1 ha2
              simp only [List.append_assoc, List.cons_append, List.nil_append, List.length_append, List.length_cons, List.length_nil, Nat.zero_add] at hz2
              simp [h2, h9, h11, h14]
              refine hW1.len.mono ?_
              rintro v H6 ⟨rfl, rfl⟩
              simp [h2, h9, h11, h14]
              refine ha1.mono ?_
              rintro v H7 ⟨rfl, rfl⟩
              simp [h2, h9, h11, h14, hz1]
              refine ha2.mono ?_
              rintro v H8 ⟨rfl, rfl⟩
              simp [h2, h9, h11, h14, hz2]
              have hK9 : Keeps H7 (H7 ++ [AO.cells [.int .i64 0, .int .i64 0, .int .i64 0, .str []] 40, AO.cells [.int .i64 0, .int .i64 0, .int .i64 0, .str []] 40]) := Keeps.app _ _
              have hW9 := hW1.keeps hK9
              have hrow9 := (hrow.more hK9).row
              generalize H7 ++ [AO.cells [.int .i64 0, .int .i64 0, .int .i64 0, .str []] 40, AO.cells [.int .i64 0, .int .i64 0, .int .i64 0, .str []] 40] = H9 at *
              obtain ⟨rvw, hWw⟩ := hW9.logw
              have hbw := hWw.box
              simp [h2, h9, h11, h14, hbw]
              refine (same_ok hrow9 hWw.row (by omega)).mono ?_
              rintro v H8 ⟨rfl, rfl⟩
              simp [h2, h9, h11, h14]
              refine (hW9.seen g1 g2 (by omega) x).mono ?_
              rintro vp H10 hR1
              have hW10 := hW9.keeps hR1.keeps
              simp [h2, h9, h11, h14]
              refine (hW10.seenw ht gd (by omega) x).mono ?_
              rintro vq H11 hR2
              have hW11 := hW10.keeps hR2.keeps
              have hsl := seenF_le (upT T) F x
              simp [h2, h9, h11, h14]
              refine (same_ok (hR1.more hR2.keeps).row hR2.row (by omega)).mono ?_
              rintro v H12 ⟨rfl, rfl⟩
              simp [h2, h9, h11, h14]
              refine (hW11.roomg (by omega) x).mono ?_
              rintro v H12 ⟨rfl, rfl⟩
              simp [h2, h9, h11, h14]
              refine (hW11.roomw ht (by omega) x).mono ?_
              rintro v H12 ⟨rfl, rfl⟩
              simp [h2, h9, h11, h14]
      · exact absurd gd ng
    · have hne : ¬ ansT T = 0 := fun h => gd (ansT_good.1 h)
      simp [hne]
end Go.Proofs.YtkcddlpmekejkaaDoor.Au
