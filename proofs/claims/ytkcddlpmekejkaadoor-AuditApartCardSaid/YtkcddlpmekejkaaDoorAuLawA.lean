/- AuditApart: what the law's code computes. -/
import Derived.Test.YtkcddlpmekejkaaDoorAuTwo
import Derived.Test.YtkcddlpmekejkaaDoorAuGreat
namespace Go.Proofs.YtkcddlpmekejkaaDoor.Au
open Go Go.RowKit Am Latt
set_option maxRecDepth 100000
set_option linter.unusedSimpArgs false
set_option linter.unusedVariables false
attribute [-simp] Am.binEv Am.intBin Am.read1
attribute [local simp] binEv_lss binEv_leq binEv_gtr binEv_geq binEv_eql binEv_neq binEv_add binEv_sub binEv_mul binEv_shr58 read1_ro read1_mu
variable {R : Ro}
theorem binEv_rem8 (a r : Nat) (hr : r ≠ 0) : binEv .rem (.int .u8 (a : Int)) (.int .u8 (r : Int)) = some (.int .u8 ((a % r : Nat) : Int)) := by
  have h0 : ¬ ((r : Int) = 0) := by omega
  show (if (r : Int) = 0 then none else some (AV.int .u8 ((a : Int).tmod r))) = _
  rw [if_neg h0]; rfl
theorem writeN_last (H : AH) {old new : List AV} (t : TypeId) (hl : new.length = old.length) (h1 : new.all AV.oneCell = true) : writeN (H ++ [.cells old t]) H.length 0 new = some (H ++ [.cells new t]) := by
  unfold writeN
  have hsp : splice old 0 new = new := by
    unfold splice
    rw [hl]
    simp
  simp [AO.content, AO.withContent, hsp, h1, hl]
def zero4 : List AV := [.int .i64 0, .int .i64 0, .int .i64 0, .str []]
def headC (E : List Ent) : List AV := match E[0]? with | some x => cellsE x | none => zero4
def AInv (g kg h kh l p q : Nat) (T : List (List Bool)) (a : AV) (x : Int) (E : List Ent) (e : Env) (H : AH) : Prop :=
  ∃ (i : Nat) (Eg : List Ent), e 2 = a ∧ e 3 = .int .i64 x ∧ e 9 = .ptr (.mu l) 0 ∧ e 11 = .ptr (.mu g) 0 ∧ e 13 = .ptr (.mu h) 0 ∧ e 15 = .int .i64 i ∧ i ≤ E.length ∧ TwoL H g kg h kh l p q T Eg (seenF (upT T) Eg x) (2 * i) ∧ ∀ y ∈ Eg, bel (upT T) y.2.1 y.2.2.1 = false
set_option maxHeartbeats 8000000 in
theorem apart (hT : HasTab R) (haw : ∀ H, ACalls Tryd.prog R 7 [] H fun v H' => H' = H ∧ v = .bool true) {rn sn : Nat} {x : Int} {a : AV} {E : List Ent} (hr : rn < 256) (hs : sn < 256) (hE : Ents R a E) :
    ACalls Tryd.prog R 5 [.int .u8 (rn : Int), .int .u8 (sn : Int), a, .int .i64 x] [] fun v _ => v = .bool true := by
  have hlen := hE.len
  obtain ⟨r1, hr1, hr2⟩ : ∃ r1 : Nat, r1 = rn % 4 ∧ r1 < 4 := ⟨_, rfl, by omega⟩
  obtain ⟨s1, hs1, hs2⟩ : ∃ s1 : Nat, s1 = sn % 3 ∧ s1 < 3 := ⟨_, rfl, by omega⟩
  have q4 : binEv .rem (.int .u8 (rn : Int)) (.int .u8 4) = some (.int .u8 (r1 : Int)) := by rw [hr1]; exact binEv_rem8 rn 4 (by omega)
  have q3 : binEv .rem (.int .u8 (sn : Int)) (.int .u8 3) = some (.int .u8 (s1 : Int)) := by rw [hs1]; exact binEv_rem8 sn 3 (by omega)
  have w1 := i64_small (r1 : Int) (by omega) (by omega)
  have w2 := i64_small (s1 : Int) (by omega) (by omega)
  have w3 := i64_small (1 + (r1 : Int)) (by omega) (by omega)
  refine ACalls.of_wpE Fns.ok5 (by simp [Fns.a5]) ?_
  simp [Fns.a5]
  refine (haw _).mono ?_
  rintro v H' ⟨rfl, rfl⟩
  simp
  refine (great_ok (tv := .nilslice) (T := []) (grid_tab (.inl ⟨rfl, rfl⟩) _) hE).mono ?_
  rintro v H' ⟨rfl, b, rfl, hb⟩
  cases b with
  | true => simp
  | false =>
    have hE1 := hb rfl
    have hm : RankMay (1 + (r1 : Int)) (s1 : Int) := by
      have hp : 2 ^ s1 ≤ 4 := by
        rcases (show s1 = 0 ∨ s1 = 1 ∨ s1 = 2 by omega) with e | e | e <;> rw [e] <;> decide
      have : (1 + r1) * 2 ^ s1 ≤ 4 * 4 := Nat.mul_le_mul (by omega) hp
      refine ⟨by omega, by omega, by omega, by omega, ?_⟩
      rw [show (1 + (r1 : Int)).toNat = 1 + r1 by omega, show (s1 : Int).toNat = s1 by omega]
      omega
    have gd : GoodT (rankT (1 + (r1 : Int)).toNat ((1 + (r1 : Int)).toNat * 2 ^ (s1 : Int).toNat)) := rank_good (by have := hm.1; omega) hm.2.2.2.2
    simp [q4, q3, w1, w2, w3]
    refine (rank_sure hT _ _ _ hm).mono ?_
    rintro v H1 ⟨k1, l, p, q, rfl, hin, _, _, _⟩
    generalize rankT (1 + (r1 : Int)).toNat ((1 + (r1 : Int)).toNat * 2 ^ (s1 : Int).toNat) = T at *
    have g1 := gd.lo
    have g2 := gd.hi
    simp
    refine (new_at (R := R) (hin.at g1 g2) (upT_len T) g2).mono ?_
    rintro v H2 ⟨k2, g, kg, rfl, hG, hg1, hg2, hg3⟩
    have hin2 := hin.frame (H' := H2) fun i hi => k2.2 i (lat_lt hin i hi)
    simp
    refine (new_at (R := R) (hin2.at g1 g2) (upT_len T) g2).mono ?_
    rintro v H3 ⟨k3, h, kh, rfl, hH, hh1, hh2, hh3⟩
    have hin3 := hin2.frame (H' := H3) fun i hi => k3.2 i (lat_lt hin2 i hi)
    have hTwo : TwoL H3 g kg h kh l p q T [] (seenF (upT T) [] x) (2 * 0) := ⟨hin3, ⟨_, _, hG.keeps k3, hH, fun j hj hi => by
      have := hG.lt hj
      rcases hi with rfl | rfl | ⟨_, _, _, e⟩
      · omega
      · omega
      · cases e⟩, ⟨hg3, hh3⟩, by simp [seenF]⟩
    simp
    refine AWp.loop (fun e H => AInv g kg h kh l p q T a x E e H) (fun e _ => match e 15 with | .int _ i => ((E.length : Int) - i).toNat | _ => 0) ⟨0, [], rfl, rfl, rfl, rfl, rfl, rfl, by omega, hTwo, by simp⟩ ?_
    rintro e H ⟨i, Eg, h2, h3, h9, h11, h13, h15, hi, hW, hap⟩
    refine wpE_sound _ ?_
    by_cases hlt : i < E.length
    · obtain ⟨b, off, cap, ha, r0, r1, r2, r3, hrd⟩ := hE.at hlt
      have hlt' : (i : Int) < (E.length : Int) := by omega
      have hw1 := i64_small ((i : Int) + 1) (by omega) (by omega)
      rw [ha] at h2
      have hle := hW.les.1
      have hn1 := i64_small ((Eg.length : Int) + 1) (by omega) (by omega)
      generalize E[i] = en at *
      have hcw : ∀ (H : AH) (y : Ent), writeN (H ++ [.cells [.int .i64 0, .int .i64 0, .int .i64 0, .str []] 40]) H.length 0 [.int .i64 y.1, .int .i64 y.2.1, .int .i64 y.2.2.1, .str y.2.2.2] = some (H ++ [.cells [.int .i64 y.1, .int .i64 y.2.1, .int .i64 y.2.2.1, .str y.2.2.2] 40]) := fun H y => writeN_last H 40 rfl rfl
      have hrd' := hrd
      simp only [cellsE] at hrd'
      simp [h2, h3, h9, h11, h13, h15, hlt, hlt']
      refine hW.len.mono ?_
      rintro v H' ⟨rfl, rfl⟩
      simp [h2, h3, h9, h11, h13, h15]
      refine hW.at0.mono ?_
      rintro v H' ⟨rfl, rfl⟩
      have hX := hW.keeps (Keeps.app H' [.cells (cellsE (headE Eg)) 40])
      have hput := hX.put (R := R) g1 g2 (by omega) en
      simp only [cellsE] at hX hput ⊢
      simp [h2, h3, h9, h11, h13, h15, hlt, hlt', hcw, hrd']
      refine hput.mono ?_
      rintro v H5 ⟨rfl, hfr, hlen5, hcase⟩
      have f17 : H5[H'.length]? = some (.cells [.int .i64 (headE Eg).1, .int .i64 (headE Eg).2.1, .int .i64 (headE Eg).2.2.1, .str (headE Eg).2.2.2] 40) := hfr _ _ (by simp)
      have hl5 : H'.length < H5.length := (List.getElem?_eq_some_iff.1 f17).1
      have hself := eq_self (headE Eg)
      simp only [cellsE, fields40] at hself
      simp only [eqEv] at hself
      have hlne : ¬ (Eg.length : Int) = Eg.length + 1 := by omega
      have hlgt : ¬ (Eg.length : Int) + 1 < Eg.length := by omega
      rcases hcase with ⟨hne, hW5⟩ | ⟨h0, hW5⟩
      · simp [h2, h3, h9, h11, h13, h15, hlt, hlt', hne, hn1]
        refine hW5.len.mono ?_
        rintro v H6 ⟨rfl, rfl⟩
        simp [h2, h3, h9, h11, h13, h15, hlt, hlt', hne, hn1, eqEv, hne, hlne, hlgt]
        refine hW5.len.mono ?_
        rintro v H6 ⟨rfl, rfl⟩
        simp [h2, h3, h9, h11, h13, h15, hlt, hlt', hne, hn1, eqEv, hne, hlne, hlgt]
        refine hW5.at0.mono ?_
        rintro v H6 ⟨rfl, rfl⟩
        have f6 : (H6 ++ [AO.cells [.int .i64 (headE Eg).1, .int .i64 (headE Eg).2.1, .int .i64 (headE Eg).2.2.1, .str (headE Eg).2.2.2] 40])[H'.length]? = some (.cells [.int .i64 (headE Eg).1, .int .i64 (headE Eg).2.1, .int .i64 (headE Eg).2.2.1, .str (headE Eg).2.2.2] 40) := by rw [List.getElem?_append_left hl5]; exact f17
        have hW6 := hW5.keeps (Keeps.app H6 [AO.cells [.int .i64 (headE Eg).1, .int .i64 (headE Eg).2.1, .int .i64 (headE Eg).2.2.1, .str (headE Eg).2.2.2] 40])
        have hput2 := hW6.swap.put (R := R) g1 g2 (by omega) en
        simp only [cellsE] at hput2 ⊢
        cases hw : isE Eg with
        | false =>
          simp [h2, h3, h9, h11, h13, h15, hlt, hlt', r0, hcw, hw, f6]
          refine (below_ok (R := R) (hW6.lat.at g1 g2) _ _).mono ?_
          rintro v H7 ⟨rfl, rfl⟩
          cases hbx : bel (upT T) en.1 x with
          | false =>
            simp [h2, h3, h9, h11, h13, h15, hlt, hlt', hw1]
            exact ⟨⟨i + 1, Eg, by simp [h2, ha], by simp [h3], by simp [h9], by simp [h11], by simp [h13], by simp, by omega, hW6.weak (by omega), hap⟩, by omega⟩
          | true =>
            have hps := put_seen (n := T.length) hbx Eg
            simp [h2, h3, h9, h11, h13, h15, hlt, hlt', hrd']
            refine hput2.mono ?_
            rintro v H8 ⟨rfl, _, _, hcase8⟩
            rw [hps] at hcase8
            simp [h2, h3, h9, h11, h13, h15, hlt, hlt', hps, hne, hw1]
            rcases hcase8 with ⟨hne8, hW8⟩ | ⟨h08, hW8⟩
            · exact ⟨⟨i + 1, Eg, by simp [h2, ha], by simp [h3], by simp [h9], by simp [h11], by simp [h13], by simp, by omega, hW8.swap.weak (by omega), hap⟩, by omega⟩
            · exact absurd h08 hne
        | true =>
          have hm2 := hw
          simp [h2, h3, h9, h11, h13, h15, hlt, hlt', r0, hcw, hw, hm2, f6, hself]
          refine (below_ok (R := R) (hW6.lat.at g1 g2) _ _).mono ?_
          rintro v H7 ⟨rfl, rfl⟩
          cases hbx : bel (upT T) en.1 x with
          | false =>
            simp [h2, h3, h9, h11, h13, h15, hlt, hlt', hw1]
            exact ⟨⟨i + 1, Eg, by simp [h2, ha], by simp [h3], by simp [h9], by simp [h11], by simp [h13], by simp, by omega, hW6.weak (by omega), hap⟩, by omega⟩
          | true =>
            have hps := put_seen (n := T.length) hbx Eg
            simp [h2, h3, h9, h11, h13, h15, hlt, hlt', hrd']
            refine hput2.mono ?_
            rintro v H8 ⟨rfl, _, _, hcase8⟩
            rw [hps] at hcase8
            simp [h2, h3, h9, h11, h13, h15, hlt, hlt', hps, hne, hw1]
            rcases hcase8 with ⟨hne8, hW8⟩ | ⟨h08, hW8⟩
            · exact ⟨⟨i + 1, Eg, by simp [h2, ha], by simp [h3], by simp [h9], by simp [h11], by simp [h13], by simp, by omega, hW8.swap.weak (by omega), hap⟩, by omega⟩
            · exact absurd h08 hne
      · have hap2 : ∀ y ∈ Eg ++ [en], bel (upT T) y.2.1 y.2.2.1 = false := by
            intro y hy
            rcases List.mem_append.1 hy with hy | hy
            · exact hap y hy
            · simp at hy
              subst hy
              exact put_apart h0
        simp [h2, h3, h9, h11, h13, h15, hlt, hlt', h0, hn1]
        refine hW5.len.mono ?_
        rintro v H6 ⟨rfl, rfl⟩
        simp [h2, h3, h9, h11, h13, h15, hlt, hlt', h0, hn1, eqEv, h0]
        refine hW5.len.mono ?_
        rintro v H6 ⟨rfl, rfl⟩
        simp [h2, h3, h9, h11, h13, h15, hlt, hlt', h0, hn1, eqEv, h0]
        refine hW5.at0.mono ?_
        rintro v H6 ⟨rfl, rfl⟩
        have f6 : (H6 ++ [AO.cells [.int .i64 (headE (Eg ++ [en])).1, .int .i64 (headE (Eg ++ [en])).2.1, .int .i64 (headE (Eg ++ [en])).2.2.1, .str (headE (Eg ++ [en])).2.2.2] 40])[H'.length]? = some (.cells [.int .i64 (headE Eg).1, .int .i64 (headE Eg).2.1, .int .i64 (headE Eg).2.2.1, .str (headE Eg).2.2.2] 40) := by rw [List.getElem?_append_left hl5]; exact f17
        have hW6 := hW5.keeps (Keeps.app H6 [AO.cells [.int .i64 (headE (Eg ++ [en])).1, .int .i64 (headE (Eg ++ [en])).2.1, .int .i64 (headE (Eg ++ [en])).2.2.1, .str (headE (Eg ++ [en])).2.2.2] 40])
        have hput2 := hW6.swap.put (R := R) g1 g2 (by omega) en
        simp only [cellsE] at hput2 ⊢
        cases hw : isE Eg with
        | false =>
          simp [h2, h3, h9, h11, h13, h15, hlt, hlt', r0, hcw, hw, f6]
          refine (below_ok (R := R) (hW6.lat.at g1 g2) _ _).mono ?_
          rintro v H7 ⟨rfl, rfl⟩
          cases hbx : bel (upT T) en.1 x with
          | false =>
            simp [h2, h3, h9, h11, h13, h15, hlt, hlt', hw1]
            exact ⟨⟨i + 1, (Eg ++ [en]), by simp [h2, ha], by simp [h3], by simp [h9], by simp [h11], by simp [h13], by simp, by omega, (by rw [seen_app, hbx]; simpa using hW6.weak (m' := 2 * (i + 1)) (by omega)), hap2⟩, by omega⟩
          | true =>
            have hps := put_seen (n := T.length) hbx Eg
            simp [h2, h3, h9, h11, h13, h15, hlt, hlt', hrd']
            refine hput2.mono ?_
            rintro v H8 ⟨rfl, _, _, hcase8⟩
            rw [hps] at hcase8
            simp [h2, h3, h9, h11, h13, h15, hlt, hlt', hps, h0, hw1]
            rcases hcase8 with ⟨hne8, hW8⟩ | ⟨h08, hW8⟩
            · exact absurd h0 hne8
            · exact ⟨⟨i + 1, (Eg ++ [en]), by simp [h2, ha], by simp [h3], by simp [h9], by simp [h11], by simp [h13], by simp, by omega, (by rw [seen_app, hbx]; exact hW8.swap.weak (by omega)), hap2⟩, by omega⟩
        | true =>
          obtain ⟨hm1, hm2⟩ := head_more en hw
          rw [hm1] at f6 hW6 hput2 ⊢
          simp [h2, h3, h9, h11, h13, h15, hlt, hlt', r0, hcw, hw, hm2, f6, hself]
          refine (below_ok (R := R) (hW6.lat.at g1 g2) _ _).mono ?_
          rintro v H7 ⟨rfl, rfl⟩
          cases hbx : bel (upT T) en.1 x with
          | false =>
            simp [h2, h3, h9, h11, h13, h15, hlt, hlt', hw1]
            exact ⟨⟨i + 1, (Eg ++ [en]), by simp [h2, ha], by simp [h3], by simp [h9], by simp [h11], by simp [h13], by simp, by omega, (by rw [seen_app, hbx]; simpa using hW6.weak (m' := 2 * (i + 1)) (by omega)), hap2⟩, by omega⟩
          | true =>
            have hps := put_seen (n := T.length) hbx Eg
            simp [h2, h3, h9, h11, h13, h15, hlt, hlt', hrd']
            refine hput2.mono ?_
            rintro v H8 ⟨rfl, _, _, hcase8⟩
            rw [hps] at hcase8
            simp [h2, h3, h9, h11, h13, h15, hlt, hlt', hps, h0, hw1]
            rcases hcase8 with ⟨hne8, hW8⟩ | ⟨h08, hW8⟩
            · exact absurd h0 hne8
            · exact ⟨⟨i + 1, (Eg ++ [en]), by simp [h2, ha], by simp [h3], by simp [h9], by simp [h11], by simp [h13], by simp, by omega, (by rw [seen_app, hbx]; exact hW8.swap.weak (by omega)), hap2⟩, by omega⟩
    · obtain rfl : i = E.length := by omega
      have hnl : ¬ (E.length : Int) < 0 := by omega
      have hle := hW.les.1
      have hmem : ∀ y ∈ seenF (upT T) Eg x, bel (upT T) y.1 x = true ∧ bel (upT T) y.2.1 y.2.2.1 = false := fun y hy => by
        unfold seenF at hy
        rw [List.mem_filter] at hy
        exact ⟨hy.2, hap y hy.1⟩
      rcases hlen with ⟨ha, hE0⟩ | ⟨b, off, cap, ha⟩ <;>
      · rw [ha] at h2
        simp [h2, h3, h9, h11, h13, h15, hnl]
        refine (hW.seen g1 g2 (by omega) x).mono ?_
        rintro vp H5 hR1
        simp [h2, h3, h9, h11, h13, h15]
        have hW5 := hW.keeps hR1.keeps
        refine (hW5.swap.seen g1 g2 (by omega) x).mono ?_
        rintro vq H6 hR2
        rw [seen_seen] at hR2
        have hr1 := (hR1.more hR2.keeps).row
        have hr2 := hR2.row
        have hW6 := hW5.keeps hR2.keeps
        clear hW hW5 hR1 hR2
        generalize seenF (upT T) Eg x = F at *
        have hFl := hW6.les.2
        have hfl := flat_len F
        rcases hr1 with ⟨rfl, e0, _⟩ | ⟨j1, rfl, hj1, _⟩
        · obtain rfl := List.length_eq_zero_iff.1 e0
          rcases hr2 with ⟨rfl, _, _⟩ | ⟨j2, rfl, _, _⟩ <;>
          · simp [h2, h3, h9, h11, h13, h15]
            refine hW6.swap.len.mono ?_
            rintro v H7 ⟨rfl, rfl⟩
            simp [h2, h3, h9, h11, h13, h15]
            refine AWp.loop_once (wpE_sound _ ?_)
            simp
        rcases hr2 with ⟨rfl, e1, _⟩ | ⟨j2, rfl, hj2, _⟩
        · obtain rfl := List.length_eq_zero_iff.1 e1
          simp [h2, h3, h9, h11, h13, h15]
          refine hW6.swap.len.mono ?_
          rintro v H7 ⟨rfl, rfl⟩
          simp [h2, h3, h9, h11, h13, h15]
          refine AWp.loop_once (wpE_sound _ ?_)
          simp
        · have hF0 : ¬ (F.length : Int) < 0 := by omega
          simp [h2, h3, h9, h11, h13, h15]
          refine hW6.swap.len.mono ?_
          rintro v H7 ⟨rfl, rfl⟩
          simp [h2, h3, h9, h11, h13, h15]
          refine AWp.loop (fun e H' => H' = H7 ∧ e 3 = .int .i64 x ∧ e 9 = .ptr (.mu l) 0 ∧ e 22 = _ ∧ e 23 = _ ∧ ∃ j : Nat, e 24 = .int .i64 j ∧ j ≤ F.length) (fun e _ => match e 24 with | .int _ i => ((F.length : Int) - i).toNat | _ => 0) ⟨rfl, by simp [h3], by simp [h9], rfl, rfl, 0, rfl, by omega⟩ ?_
          rintro e H' ⟨rfl, h3, h9, h22, h23, j, h24, hj⟩
          refine wpE_sound _ ?_
          by_cases hjl : j < F.length
          · first
            | (have hjl' : (j : Int) < (F.length : Int) := by omega
               have hw1 := i64_small ((j : Int) + 1) (by omega) (by omega)
               obtain ⟨y, hy⟩ : ∃ y, F[j]? = some y := ⟨_, List.getElem?_eq_getElem hjl⟩
               have hm2 := hmem y (List.mem_of_getElem? hy)
               have hf4 := flat_at hy
               have hf0 : (flat F)[j * 4]? = some (.int .i64 y.1) := by have h5 := flat_get hy (r := 0) (by omega); rw [Nat.add_zero] at h5; rw [h5]; rfl
               have hf1 : (flat F)[j * 4 + 1]? = some (.int .i64 y.2.1) := by rw [flat_get hy (r := 1) (by omega)]; rfl
               have hf2 : (flat F)[j * 4 + 2]? = some (.int .i64 y.2.2.1) := by rw [flat_get hy (r := 2) (by omega)]; rfl
               have hg0 := (List.getElem?_eq_some_iff.1 hf0).2
               have hg1 := (List.getElem?_eq_some_iff.1 hf1).2
               have hg2 := (List.getElem?_eq_some_iff.1 hf2).2
               have hfi : j * 4 + 4 ≤ F.length * 4 := by omega
               have hself := eq_self y
               simp only [cellsE, fields40] at hself
               simp only [eqEv] at hself
               simp only [cellsE] at hf4
               have hb1 := below_ok (R := R) (hW6.lat.at g1 g2) y.1 x
               have hb2 := below_ok (R := R) (hW6.lat.at g1 g2) y.2.1 y.2.2.1
               rw [hm2.1] at hb1
               rw [hm2.2] at hb2
               simp at h22 h23
               simp [h3, h9, h22, h23, h24, hjl, hjl']
               refine AWp.sched [0, 1, 2, 3, 4, 5, 6, 7, 8, 9, 10, 11, 12, 13, 14, 15, 16, 17, 18, 19, 20, 21, 22, 23, 24, 25, 26, 27, 28, 29, 30, 31, 32, 33] Fns.mixed (by decide +kernel) ?_
               simp [h3, h9, h22, h23, h24, hjl, hjl', hj1, hj2, hf4, hf0, hf1, hf2, hg0, hg1, hg2, hfl, hfi, hself]
               refine hb1.mono ?_
               rintro v H8 ⟨rfl, rfl⟩
               simp [h3, h9, h22, h23, h24, hjl, hjl', hj1, hj2, hf4, hf0, hf1, hf2, hg0, hg1, hg2, hfl, hfi, hself, recheck]
               refine hb2.mono ?_
               rintro v H8 ⟨rfl, rfl⟩
               simp [h3, h9, h22, h23, h24, hjl, hjl', hj1, hj2, hf4, hf0, hf1, hf2, hg0, hg1, hg2, hfl, hfi, hself, recheck, hw1]
               exact ⟨⟨j + 1, by simp, by omega⟩, by omega⟩)
          · obtain rfl : j = F.length := by omega
            simp at h22 h23
            simp [h3, h9, h22, h23, h24]
end Go.Proofs.YtkcddlpmekejkaaDoor.Au
