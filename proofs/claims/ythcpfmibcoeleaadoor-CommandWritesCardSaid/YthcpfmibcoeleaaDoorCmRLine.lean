/- A number's word, the document's way: what its code computes. -/
import Derived.Test.YthcpfmibcoeleaaDoorCmRight
import Derived.Test.YthcpfmibcoeleaaDoorCmRPane
import Derived.Test.YthcpfmibcoeleaaDoorCmRParse
import Derived.Test.YthcpfmibcoeleaaDoorCmBack
namespace Go.Proofs.YthcpfmibcoeleaaDoor.Cm
open Go Go.RowKit Am Go.Proofs.YthcpfmibcoeleaaDoor.Id
set_option maxRecDepth 100000
set_option linter.unusedSimpArgs false
set_option linter.unusedVariables false
attribute [-simp] Am.binEv Am.intBin Am.read1
attribute [local simp] binEv_lss binEv_leq binEv_gtr binEv_geq binEv_eql binEv_neq binEv_add binEv_sub binEv_mul binEv_shr58 read1_ro read1_mu binEv_seql binEv_sneq
variable {R : Ro}
theorem u8_ok (n : Nat) (h : n < 256) : IntKind.u8.wrap (n : Int) = n := wrap_small .u8 n (by simp only [mx]; omega) (by simp only [neg?]; simp)
set_option maxHeartbeats 2000000 in
theorem word_pos (n : Nat) (hn : n ≤ 9999999999) (H : AH) : ACalls Tryd.prog R 31 [.int .i64 (n : Int)] H fun v H' => v = .str (Lib.decDigits n) ∧ Keeps H H' := by
  refine ACalls.of_wpE Fns.ok31 (by simp [Fns.a31]) ?_
  have h0 : ¬ (n : Int) < 0 := by omega
  have hT := dec_len2 9 n (by omega)
  obtain ⟨T, hTe⟩ : ∃ T, Lib.decDigits n = T := ⟨_, rfl⟩
  rw [hTe] at hT ⊢
  simp [Fns.a31, h0]
  refine AWp.loop (fun e H1 => Keeps H H1 ∧ ∃ (m : Nat) (s : List UInt8), e 0 = .int .i64 (m : Int) ∧ e 3 = .str s ∧ m ≤ n ∧ T = Lib.decDigits m ++ s)
    (fun e _ => match e 0 with | .int _ i => i.toNat | _ => 0) ⟨Keeps.refl _, n, [], by simp, by simp, by omega, by rw [hTe]; simp⟩ ?_
  rintro e H1 ⟨hk, m, s, h0', h3, hm, hTm⟩
  refine wpE_sound _ ?_
  have hr : binEv .rem (.int .i64 (m : Int)) (.int .i64 10) = some (.int .i64 ((m % 10 : Nat) : Int)) := binEv_remI m 10 (by omega)
  have hq : binEv .quo (.int .i64 (m : Int)) (.int .i64 10) = some (.int .i64 ((m / 10 : Nat) : Int)) := binEv_quoI m 10 (by omega) (by omega)
  obtain ⟨d, hd⟩ : ∃ d, d = m % 10 := ⟨_, rfl⟩
  obtain ⟨q, hqe⟩ : ∃ q, q = m / 10 := ⟨_, rfl⟩
  rw [← hd] at hr
  rw [← hqe] at hq
  have hw : IntKind.i64.wrap (48 + (d : Int)) = 48 + d := i64_ok _ (by omega) (by omega)
  have hw2 : IntKind.u8.wrap (48 + (d : Int)) = 48 + d := by have := u8_ok (48 + d) (by omega); simpa using this
  have ht : (48 + (d : Int)).toNat = 48 + d := by omega
  have hp : (0 : Int) ≤ 48 + (d : Int) := by omega
  have hsl : s.length ≤ 10 := by have := congrArg List.length hTm; rw [List.length_append] at this; omega
  have hs2 := binEv_sadd (x := [UInt8.ofNat (48 + d)]) (y := s) (by simp; omega)
  have hs3 : binEv .add (.str [(48 : UInt8) + UInt8.ofNat d]) (.str s) = some (.str (((48 : UInt8) + UInt8.ofNat d) :: s)) := by
    have h : ((48 : UInt8) + UInt8.ofNat d) = UInt8.ofNat (48 + d) := by simp
    rw [h]
    exact hs2
  have hof : (48 + UInt8.ofNat d : UInt8) = UInt8.ofNat (48 + d) := by simp
  have hkk : ∀ o : AO, Keeps H (H1 ++ [o]) := fun o => hk.trans (Keeps.app _ _)
  by_cases hz : q = 0
  · have hz' : (q : Int) = 0 := by omega
    have hTs : T = ((48 : UInt8) + UInt8.ofNat d) :: s := by
      rw [hTm, dec_small (by omega), hof, hd, show m % 10 = m by omega]
      rfl
    simp [h0', h3, hr, hq, hw, hw2, ht, hp, hz', hz, fillA, splice, zerosEv, AV.oneCell, bytesOf, hs3]
    exact ⟨hTs.symm, hkk _⟩
  · have hz' : ¬ (q : Int) = 0 := by omega
    simp [h0', h3, hr, hq, hw, hw2, ht, hp, hz', hz, fillA, splice, zerosEv, AV.oneCell, bytesOf, hs3]
    refine ⟨⟨hkk _, q, by rfl, by omega, ?_⟩, by omega⟩
    rw [hTm, dec_big (by omega), hof, hd, hqe]
    simp
theorem word {n : Int} (h1 : -9999999999 ≤ n) (h2 : n ≤ 9999999999) (H : AH) : ACalls Tryd.prog R 31 [.int .i64 n] H fun v H' => v = .str (Lib.itoa n) ∧ Keeps H H' := by
  by_cases hn : n < 0
  · refine ACalls.of_wpE Fns.ok31 (by simp [Fns.a31]) ?_
    obtain ⟨m, hm⟩ : ∃ m : Nat, -n = (m : Int) := ⟨n.natAbs, by omega⟩
    have hw : IntKind.i64.wrap (-n) = (m : Int) := by rw [hm]; exact i64_ok _ (by omega) (by omega)
    simp [Fns.a31, hn, hw]
    refine (word_pos m (by omega) _).mono ?_
    rintro v H2 ⟨rfl, hk⟩
    have hl := dec_len2 9 m (by omega)
    have hs := binEv_sadd (x := [45]) (y := Lib.decDigits m) (by simp; omega)
    simp [hs, hk]
    rw [itoa_neg hn, show n.natAbs = m by omega]
  · obtain ⟨m, rfl⟩ : ∃ m : Nat, n = (m : Int) := ⟨n.toNat, by omega⟩
    refine (word_pos m (by omega) _).mono ?_
    rintro v H2 ⟨rfl, hk⟩
    exact ⟨by rw [itoa_pos (by omega)]; simp, hk⟩
end Go.Proofs.YthcpfmibcoeleaaDoor.Cm
namespace Go.Proofs.YthcpfmibcoeleaaDoor.Cm
open Go Go.RowKit Am Go.Proofs.YthcpfmibcoeleaaDoor.Id
set_option maxRecDepth 100000
set_option linter.unusedSimpArgs false
set_option linter.unusedVariables false
attribute [-simp] Am.binEv Am.intBin Am.read1
attribute [local simp] binEv_lss binEv_leq binEv_gtr binEv_geq binEv_eql binEv_neq binEv_add binEv_sub binEv_mul binEv_shr58 read1_mu binEv_seql binEv_sneq
variable {R : Ro}
set_option maxHeartbeats 8000000 in
theorem rright {c : Cmd} {nv : AV} {H : AH} (hr : RdI R H nv c.nums) (hnl : c.nums.length ≤ 1000) (ht : c.text.length ≤ 100000) :
    ACalls Tryd.prog R 14 [.agg (cellsC c nv)] H fun v H' => Keeps H H' ∧ v = .bool (rightF c) := by
  refine ACalls.of_wpE Fns.ok14 (by simp [Fns.a14]) ?_
  have oc := one_cells (c := c) hr.one
  have oc' : ∀ x ∈ cellsC c nv, x.oneCell = true := List.all_eq_true.1 oc
  obtain ⟨cs, hcs⟩ : ∃ cs, cs = cellsC c nv := ⟨_, rfl⟩
  rw [← hcs] at oc oc' ⊢
  have hc0 : cs[0]? = some (.str c.name) := by rw [hcs]; rfl
  have hc0' : ∀ h, cs[0]'h = .str c.name := fun h => by rw [List.getElem?_eq_getElem h] at hc0; exact Option.some.inj hc0
  simp [Fns.a14, oc, oc', hc0, hc0']
  have hbx : ∀ G : AH, Keeps (H ++ [.cells cs 31]) G → G[H.length]? = some (.cells [.str c.name, nv, .int .i64 c.pane.1, .int .i64 c.pane.2.1, .int .i64 c.pane.2.2, .str c.text] 31) := fun G hk => by
    rw [hk.2 _ (by simp), hcs]
    simp [cellsC]
  obtain ⟨Hb, hHb⟩ : ∃ Hb, Hb = H ++ [AO.cells cs 31] := ⟨_, rfl⟩
  have hb0 := hbx Hb (by rw [hHb]; exact Keeps.refl _)
  have hkb : Keeps H Hb := by rw [hHb]; exact Keeps.app _ _
  rw [← hHb] at hbx ⊢
  have hpe := eqP c.pane.1 c.pane.2.1 c.pane.2.2 0 0 0
  have hpq : (c.pane.1 = 0 ∧ c.pane.2.1 = 0 ∧ c.pane.2.2 = 0) ↔ c.pane = (0, 0, 0) := by
    constructor
    · rintro ⟨h1, h2, h3⟩
      exact Prod.ext h1 (Prod.ext h2 h3)
    · intro h; rw [h]; exact ⟨rfl, rfl, rfl⟩
  simp only [fieldsP, hpq] at hpe
  simp only [eqEv] at hpe
  cases hform : lookP c.name Fns.table with
  | none =>
    have hform' : formOf c.name = none := hform
    refine (rform_none hform _).mono ?_
    rintro v H1 ⟨rfl, rfl⟩
    simp
    exact ⟨hkb, by unfold rightF; rw [hform']⟩
  | some form =>
    have hform' : formOf c.name = some form := hform
    obtain ⟨hf3, hfl⟩ := form_fine hform'
    obtain ⟨D, hD⟩ : ∃ D, rightF c = D := ⟨_, rfl⟩
    have hD0 : rightL form c.nums (decide (c.pane = (0, 0, 0))) (decide (c.text = [])) c = D := by rw [← hD]; unfold rightF; rw [hform']
    rw [hD]
    refine (rform_some hform _).mono ?_
    rintro v Hb ⟨rfl, rfl⟩
    simp [hb0, fill30, hpe]
    refine AWp.loop (fun e H1 => e 1 = .ptr (.mu H.length) 0 ∧ e 3 = .str form ∧ Keeps Hb H1 ∧ ∃ (i a : Nat) (p t : Bool), e 8 = .int .i64 i ∧ e 5 = .int .i64 a ∧ e 6 = .bool p ∧ e 7 = .bool t ∧ i ≤ form.length ∧ a ≤ c.nums.length ∧ rightL (form.drop i) (c.nums.drop a) p t c = D)
      (fun e _ => match e 8 with | .int _ i => ((form.length : Int) - i).toNat | _ => 0)
      ⟨by simp, by simp, Keeps.refl _, 0, 0, decide (c.pane = (0, 0, 0)), decide (c.text = []), by simp, by simp, by simp, by simp, by omega, by omega, by simpa using hD0⟩ ?_
    rintro e H1 ⟨h1, h3, hk, i, a, p, t, h8, h5, h6, h7, hi, ha, hDi⟩
    refine wpE_sound _ ?_
    have hbox := hbx H1 hk
    have hrk := hr.keep (hkb.trans hk)
    by_cases hil : i < form.length
    · have hil' : (i : Int) < (form.length : Int) := by omega
      have hw1 : IntKind.i64.wrap ((i : Int) + 1) = (i : Int) + 1 := i64_ok _ (by omega) (by omega)
      have hw2 : IntKind.i64.wrap ((a : Int) + 1) = (a : Int) + 1 := i64_ok _ (by omega) (by omega)
      obtain ⟨b, hb⟩ : ∃ b, form[i]? = some b := ⟨_, List.getElem?_eq_getElem hil⟩
      have hb' : ∀ h, form[i]'h = b := fun h => by rw [List.getElem?_eq_getElem h] at hb; exact Option.some.inj hb
      have hdf : form.drop i = b :: form.drop (i + 1) := by
        obtain ⟨h, e⟩ := List.getElem?_eq_some_iff.1 hb
        rw [List.drop_eq_getElem_cons h, e]
      rw [hdf] at hDi
      rcases hfl b (List.mem_of_getElem? hb) with rfl | rfl | rfl | rfl
      · by_cases hal : a < c.nums.length
        · have hal' : (a : Int) < (c.nums.length : Int) := by omega
          have hal2 : ¬ (c.nums.length : Int) ≤ (a : Int) := by omega
          obtain ⟨n, hn⟩ : ∃ n, c.nums[a]? = some n := ⟨_, List.getElem?_eq_getElem hal⟩
          have hda : c.nums.drop a = n :: c.nums.drop (a + 1) := by
            obtain ⟨h, e⟩ := List.getElem?_eq_some_iff.1 hn
            rw [List.drop_eq_getElem_cons h, e]
          rw [hda] at hDi
          rcases hrk with ⟨_, h0⟩ | ⟨j, off, cp, hv, hrd⟩
          · rw [h0] at hal; simp at hal
          · have fn := hrd a n hn
            rw [hv] at hbox
            by_cases hbad : ((108 : UInt8) = 108 ∧ ¬ (0 ≤ n ∧ n ≤ 63)) ∨ ¬ (-9999 ≤ n ∧ n ≤ 9999)
            · have hDf : D = false := by
                rw [← hDi]
                unfold rightL
                rw [if_pos (by decide)]
                dsimp only
                rw [if_pos hbad]
              subst hDf
              simp only [true_and] at hbad
              by_cases g5 : n < 0
              · simp [h1, h3, h8, h5, h6, h7, hil, hil', hb', hbox, hal', hal2, fn, hw2, g5]
                exact hkb.trans hk
              · by_cases g6 : 63 < n
                · simp [h1, h3, h8, h5, h6, h7, hil, hil', hb', hbox, hal', hal2, fn, hw2, g5, g6]
                  exact hkb.trans hk
                · exfalso
                  rcases hbad with h | h
                  · exact h (by omega)
                  · exact h (by omega)
            · have hDi2 : rightL (form.drop (i + 1)) (c.nums.drop (a + 1)) p t c = D := by
                rw [← hDi]
                conv => rhs; unfold rightL
                rw [if_pos (by decide)]
                dsimp only
                rw [if_neg hbad]
              have g2 : -9999 ≤ n ∧ n ≤ 9999 := by
                by_cases h : -9999 ≤ n ∧ n ≤ 9999
                · exact h
                · exact absurd (.inr h) hbad
              have g3 : ¬ n < -9999 := by omega
              have g4 : ¬ 9999 < n := by omega
              have g1 : 0 ≤ n ∧ n ≤ 63 := by
                by_cases h : 0 ≤ n ∧ n ≤ 63
                · exact h
                · exact absurd (.inl ⟨rfl, h⟩) hbad
              have g5 : ¬ n < 0 := by omega
              have g6 : ¬ 63 < n := by omega
              simp [h1, h3, h8, h5, h6, h7, hil, hil', hb', hbox, hal', hal2, fn, hw1, hw2, g3, g4, g5, g6]
              refine ⟨⟨hk, i + 1, by omega, a + 1, by omega, ?_⟩, by omega⟩
              cases p <;> cases t <;> simp <;> exact ⟨by omega, by omega, hDi2⟩
        · have hal2 : (c.nums.length : Int) ≤ (a : Int) := by omega
          have hda : c.nums.drop a = [] := List.drop_eq_nil_of_le (by omega)
          rw [hda] at hDi
          have hDf : D = false := by
            rw [← hDi]
            unfold rightL
            rw [if_pos (by decide)]
          subst hDf
          rcases hrk with ⟨hv, h0⟩ | ⟨j, off, cp, hv, hrd⟩
          · rw [hv] at hbox
            have ha0 : (0 : Int) ≤ (a : Int) := by omega
            simp [h1, h3, h8, h5, h6, h7, hil, hil', hb', hbox, ha0]
            exact hkb.trans hk
          · rw [hv] at hbox
            simp [h1, h3, h8, h5, h6, h7, hil, hil', hb', hbox, hal2]
            exact hkb.trans hk
      · by_cases hal : a < c.nums.length
        · have hal' : (a : Int) < (c.nums.length : Int) := by omega
          have hal2 : ¬ (c.nums.length : Int) ≤ (a : Int) := by omega
          obtain ⟨n, hn⟩ : ∃ n, c.nums[a]? = some n := ⟨_, List.getElem?_eq_getElem hal⟩
          have hda : c.nums.drop a = n :: c.nums.drop (a + 1) := by
            obtain ⟨h, e⟩ := List.getElem?_eq_some_iff.1 hn
            rw [List.drop_eq_getElem_cons h, e]
          rw [hda] at hDi
          rcases hrk with ⟨_, h0⟩ | ⟨j, off, cp, hv, hrd⟩
          · rw [h0] at hal; simp at hal
          · have fn := hrd a n hn
            rw [hv] at hbox
            by_cases hbad : ((110 : UInt8) = 108 ∧ ¬ (0 ≤ n ∧ n ≤ 63)) ∨ ¬ (-9999 ≤ n ∧ n ≤ 9999)
            · have hDf : D = false := by
                rw [← hDi]
                unfold rightL
                rw [if_pos (by decide)]
                dsimp only
                rw [if_pos hbad]
              subst hDf
              have hbad2 : ¬ (-9999 ≤ n ∧ n ≤ 9999) := by
                rcases hbad with ⟨h, _⟩ | h
                · exact absurd h (by decide)
                · exact h
              by_cases g3 : n < -9999
              · simp [h1, h3, h8, h5, h6, h7, hil, hil', hb', hbox, hal', hal2, fn, hw2, g3]
                exact hkb.trans hk
              · have g4 : 9999 < n := by omega
                simp [h1, h3, h8, h5, h6, h7, hil, hil', hb', hbox, hal', hal2, fn, hw2, g3, g4]
                exact hkb.trans hk
            · have hDi2 : rightL (form.drop (i + 1)) (c.nums.drop (a + 1)) p t c = D := by
                rw [← hDi]
                conv => rhs; unfold rightL
                rw [if_pos (by decide)]
                dsimp only
                rw [if_neg hbad]
              have g2 : -9999 ≤ n ∧ n ≤ 9999 := by
                by_cases h : -9999 ≤ n ∧ n ≤ 9999
                · exact h
                · exact absurd (.inr h) hbad
              have g3 : ¬ n < -9999 := by omega
              have g4 : ¬ 9999 < n := by omega
              simp [h1, h3, h8, h5, h6, h7, hil, hil', hb', hbox, hal', hal2, fn, hw1, hw2, g3, g4]
              refine ⟨⟨hk, i + 1, by omega, a + 1, by omega, ?_⟩, by omega⟩
              cases p <;> cases t <;> simp <;> exact ⟨by omega, by omega, hDi2⟩
        · have hal2 : (c.nums.length : Int) ≤ (a : Int) := by omega
          have hda : c.nums.drop a = [] := List.drop_eq_nil_of_le (by omega)
          rw [hda] at hDi
          have hDf : D = false := by
            rw [← hDi]
            unfold rightL
            rw [if_pos (by decide)]
          subst hDf
          rcases hrk with ⟨hv, h0⟩ | ⟨j, off, cp, hv, hrd⟩
          · rw [hv] at hbox
            have ha0 : (0 : Int) ≤ (a : Int) := by omega
            simp [h1, h3, h8, h5, h6, h7, hil, hil', hb', hbox, ha0]
            exact hkb.trans hk
          · rw [hv] at hbox
            simp [h1, h3, h8, h5, h6, h7, hil, hil', hb', hbox, hal2]
            exact hkb.trans hk
      · have hDi2 : rightL (form.drop (i + 1)) (c.nums.drop a) (decide (mayP c.pane)) t c = D := by
          rw [← hDi]
          conv => rhs; unfold rightL
          rw [if_neg (by decide), if_pos rfl]
        have hwl := writeN_last0 H1 (old := [.int .i64 0, .int .i64 0, .int .i64 0]) (new := [.int .i64 c.pane.1, .int .i64 c.pane.2.1, .int .i64 c.pane.2.2]) 25 rfl rfl
        have hK : Keeps Hb (H1 ++ [AO.cells [.int .i64 c.pane.1, .int .i64 c.pane.2.1, .int .i64 c.pane.2.2] 25]) := hk.trans (Keeps.app _ _)
        by_cases hm : mayP c.pane
        · rw [decide_eq_true hm] at hDi2
          obtain ⟨⟨q0, q3'⟩, ⟨q1, q4'⟩, ⟨q2, q5'⟩⟩ := hm
          have q3 : c.pane.1 < 2147483648 := by omega
          have q4 : c.pane.2.1 < 2147483648 := by omega
          have q5 : c.pane.2.2 < 2147483648 := by omega
          simp [h1, h3, h8, h5, h6, h7, hil, hil', hb', hbox, hwl, hw1, AV.oneCell, q0, q1, q2, q3, q4, q5]
          refine ⟨⟨hK, i + 1, by omega, a, rfl, ?_⟩, by omega⟩
          cases t <;> simp <;> exact ⟨by omega, by omega, hDi2⟩
        · rw [decide_eq_false hm] at hDi2
          by_cases q0 : 0 ≤ c.pane.1
          · by_cases q1 : 0 ≤ c.pane.2.1
            · by_cases q2 : 0 ≤ c.pane.2.2
              · by_cases q3 : c.pane.1 < 2147483648
                · by_cases q4 : c.pane.2.1 < 2147483648
                  · by_cases q5 : c.pane.2.2 < 2147483648
                    · exact absurd (show mayP c.pane from ⟨⟨q0, by omega⟩, ⟨q1, by omega⟩, ⟨q2, by omega⟩⟩) hm
                    · simp [h1, h3, h8, h5, h6, h7, hil, hil', hb', hbox, hwl, hw1, AV.oneCell, q0, q1, q2, q3, q4, q5]
                      refine ⟨⟨hK, i + 1, by omega, a, rfl, ?_⟩, by omega⟩
                      cases t <;> simp <;> exact ⟨by omega, by omega, hDi2⟩
                  · simp [h1, h3, h8, h5, h6, h7, hil, hil', hb', hbox, hwl, hw1, AV.oneCell, q0, q1, q2, q3, q4]
                    refine ⟨⟨hK, i + 1, by omega, a, rfl, ?_⟩, by omega⟩
                    cases t <;> simp <;> exact ⟨by omega, by omega, hDi2⟩
                · simp [h1, h3, h8, h5, h6, h7, hil, hil', hb', hbox, hwl, hw1, AV.oneCell, q0, q1, q2, q3]
                  refine ⟨⟨hK, i + 1, by omega, a, rfl, ?_⟩, by omega⟩
                  cases t <;> simp <;> exact ⟨by omega, by omega, hDi2⟩
              · simp [h1, h3, h8, h5, h6, h7, hil, hil', hb', hbox, hwl, hw1, AV.oneCell, q0, q1, q2]
                refine ⟨⟨hK, i + 1, by omega, a, rfl, ?_⟩, by omega⟩
                cases t <;> simp <;> exact ⟨by omega, by omega, hDi2⟩
            · simp [h1, h3, h8, h5, h6, h7, hil, hil', hb', hbox, hwl, hw1, AV.oneCell, q0, q1]
              refine ⟨⟨hK, i + 1, by omega, a, rfl, ?_⟩, by omega⟩
              cases t <;> simp <;> exact ⟨by omega, by omega, hDi2⟩
          · simp [h1, h3, h8, h5, h6, h7, hil, hil', hb', hbox, hwl, hw1, AV.oneCell, q0]
            refine ⟨⟨hK, i + 1, by omega, a, rfl, ?_⟩, by omega⟩
            cases t <;> simp <;> exact ⟨by omega, by omega, hDi2⟩
      · have hDi2 : rightL (form.drop (i + 1)) (c.nums.drop a) p (fineF c.text) c = D := by
          rw [← hDi]
          conv => rhs; unfold rightL
          rw [if_neg (by decide), if_neg (by decide)]
        simp [h1, h3, h8, h5, h6, h7, hil, hil', hb', hbox]
        refine (rfine c.text ht _).mono ?_
        rintro v H2 ⟨rfl, rfl⟩
        simp [h1, h3, h8, h5, h6, h7, hw1]
        refine ⟨⟨hk, i + 1, by omega, a, rfl, ?_⟩, by omega⟩
        cases p <;> cases hq : fineF c.text <;> rw [hq] at hDi2 <;> simp <;> exact ⟨by omega, by omega, hDi2⟩
    · obtain rfl : i = form.length := by omega
      rw [List.drop_length] at hDi
      have hDe : (decide (c.nums.drop a = []) && p && t) = D := hDi
      have hal : c.nums.drop a = [] ↔ a = c.nums.length := by
        rw [List.drop_eq_nil_iff]
        omega
      rcases hrk with ⟨hv, h0⟩ | ⟨j, off, cp, hv, hrd⟩
      · rw [hv] at hbox
        have ha0 : a = 0 := by rw [h0] at ha; simpa using ha
        have hde : (p && t) = D := by rw [← hDe, decide_eq_true (hal.2 (by rw [ha0, h0]; rfl))]; simp
        subst ha0
        cases p <;> cases t <;> simp [h1, h3, h8, h5, h6, h7, hbox] <;> exact ⟨hkb.trans hk, hde.symm⟩
      · rw [hv] at hbox
        by_cases hae : a = c.nums.length
        · have hae' : (a : Int) = (c.nums.length : Int) := by omega
          have hde : (p && t) = D := by rw [← hDe, decide_eq_true (hal.2 hae)]; simp
          cases p <;> cases t <;> simp [h1, h3, h8, h5, h6, h7, hbox, hae'] <;> exact ⟨hkb.trans hk, hde.symm⟩
        · have hae' : ¬ (a : Int) = (c.nums.length : Int) := by omega
          have hde : false = D := by rw [← hDe, decide_eq_false (fun h => hae (hal.1 h))]; simp
          cases p <;> cases t <;> simp [h1, h3, h8, h5, h6, h7, hbox, hae', hae] <;> exact ⟨hkb.trans hk, hde.symm⟩
end Go.Proofs.YthcpfmibcoeleaaDoor.Cm
namespace Go.Proofs.YthcpfmibcoeleaaDoor.Cm
open Go Go.RowKit Am Go.Proofs.YthcpfmibcoeleaaDoor.Id
set_option maxRecDepth 100000
set_option linter.unusedSimpArgs false
set_option linter.unusedVariables false
attribute [-simp] Am.binEv Am.intBin Am.read1
attribute [local simp] binEv_lss binEv_leq binEv_gtr binEv_geq binEv_eql binEv_neq binEv_add binEv_sub binEv_mul binEv_shr58 read1_mu binEv_seql binEv_sneq
variable {R : Ro}
set_option maxHeartbeats 8000000 in
theorem rline {c : Cmd} {nv : AV} {H : AH} {s : List UInt8} (hok : lineOk c s) (hr : RdI R H nv c.nums) (hnl : c.nums.length ≤ 1000) (hn : c.name.length ≤ 300) (ht : c.text.length ≤ 300) :
    ACalls Tryd.prog R 17 [.agg (cellsC c nv)] H fun v H' => Keeps H H' ∧ v = .str s := by
  obtain ⟨form, hform', hbuild, hp⟩ := hok
  obtain ⟨_, _, hbn, _⟩ := parse_line hp
  have hform : lookP c.name Fns.table = some form := hform'
  obtain ⟨hf3, hfl⟩ := form_fine hform'
  refine ACalls.of_wpE Fns.ok17 (by simp [Fns.a17]) ?_
  have oc := one_cells (c := c) hr.one
  have oc' : ∀ x ∈ cellsC c nv, x.oneCell = true := List.all_eq_true.1 oc
  obtain ⟨cs, hcs⟩ : ∃ cs, cs = cellsC c nv := ⟨_, rfl⟩
  rw [← hcs] at oc oc' ⊢
  have hc0 : cs[0]? = some (.str c.name) := by rw [hcs]; rfl
  have hc0' : ∀ h, cs[0]'h = .str c.name := fun h => by rw [List.getElem?_eq_getElem h] at hc0; exact Option.some.inj hc0
  simp [Fns.a17, oc, oc', hc0, hc0']
  have hbx : ∀ G : AH, Keeps (H ++ [.cells cs 31]) G → G[H.length]? = some (.cells [.str c.name, nv, .int .i64 c.pane.1, .int .i64 c.pane.2.1, .int .i64 c.pane.2.2, .str c.text] 31) := fun G hk => by
    rw [hk.2 _ (by simp), hcs]
    simp [cellsC]
  obtain ⟨Hb, hHb⟩ : ∃ Hb, Hb = H ++ [AO.cells cs 31] := ⟨_, rfl⟩
  have hb0 := hbx Hb (by rw [hHb]; exact Keeps.refl _)
  have hkb : Keeps H Hb := by rw [hHb]; exact Keeps.app _ _
  rw [← hHb] at hbx ⊢
  refine (rform_some hform _).mono ?_
  rintro v Hb ⟨rfl, rfl⟩
  simp [hb0]
  refine AWp.loop (fun e H1 => e 1 = .ptr (.mu H.length) 0 ∧ e 3 = .str form ∧ Keeps Hb H1 ∧ ∃ (i a : Nat) (s1 : List UInt8) (u : Cmd), e 7 = .int .i64 i ∧ e 6 = .int .i64 a ∧ e 5 = .str s1 ∧ i ≤ form.length ∧ a ≤ c.nums.length ∧ s1.length ≤ 300 + i * 310 ∧ buildF (form.drop i) (c.nums.drop a) c s1 u = some (s, c))
    (fun e _ => match e 7 with | .int _ i => ((form.length : Int) - i).toNat | _ => 0)
    ⟨by simp, by simp, Keeps.refl _, 0, 0, c.name, named c.name, by simp, by simp, by simp, by omega, by omega, by omega, by simpa using hbuild⟩ ?_
  rintro e H1 ⟨h1, h3, hk, i, a, s1, u, h7, h6, h5, hi, ha, hs1, hB⟩
  refine wpE_sound _ ?_
  have hbox := hbx H1 hk
  have hrk := hr.keep (hkb.trans hk)
  by_cases hil : i < form.length
  · have hil' : (i : Int) < (form.length : Int) := by omega
    have hw1 : IntKind.i64.wrap ((i : Int) + 1) = (i : Int) + 1 := i64_ok _ (by omega) (by omega)
    have hw2 : IntKind.i64.wrap ((a : Int) + 1) = (a : Int) + 1 := i64_ok _ (by omega) (by omega)
    obtain ⟨b, hb⟩ : ∃ b, form[i]? = some b := ⟨_, List.getElem?_eq_getElem hil⟩
    have hb' : ∀ h, form[i]'h = b := fun h => by rw [List.getElem?_eq_getElem h] at hb; exact Option.some.inj hb
    have hdf : form.drop i = b :: form.drop (i + 1) := by
      obtain ⟨h, e⟩ := List.getElem?_eq_some_iff.1 hb
      rw [List.drop_eq_getElem_cons h, e]
    rw [hdf] at hB
    have hsp := binEv_sadd (x := s1) (y := [32]) (by simp; omega)
    have hln : b = 108 ∨ b = 110 ∨ b = 112 ∨ b = 116 := hfl b (List.mem_of_getElem? hb)
    rcases hln with rfl | rfl | rfl | rfl
    case' inr.inr.inl =>
      unfold buildF at hB
      rw [if_neg (by decide), if_pos rfl] at hB
      by_cases hmay : mayP c.pane
      · rw [if_pos hmay] at hB
        obtain ⟨m1, m2, m3⟩ := hmay
        have l1 := itoa_len m1
        have l2 := itoa_len m2
        have l3 := itoa_len m3
        have x1 := binEv_sadd (x := s1) (y := [32, 112]) (by simp; omega)
        have x2 := binEv_sadd (x := s1 ++ [32, 112]) (y := Lib.itoa c.pane.1) (by simp; omega)
        have x3 := binEv_sadd (x := s1 ++ 32 :: 112 :: Lib.itoa c.pane.1) (y := [46]) (by simp; omega)
        have x4 := binEv_sadd (x := s1 ++ 32 :: 112 :: (Lib.itoa c.pane.1 ++ [46])) (y := Lib.itoa c.pane.2.1) (by simp; omega)
        have x5 := binEv_sadd (x := s1 ++ 32 :: 112 :: (Lib.itoa c.pane.1 ++ 46 :: Lib.itoa c.pane.2.1)) (y := [46]) (by simp; omega)
        have x6 := binEv_sadd (x := s1 ++ 32 :: 112 :: (Lib.itoa c.pane.1 ++ 46 :: (Lib.itoa c.pane.2.1 ++ [46]))) (y := Lib.itoa c.pane.2.2) (by simp; omega)
        simp [h1, h3, h5, h6, h7, hil, hil', hb', hbox]
        refine AWp.sched [0, 1, 2, 3, 4, 8, 9, 10, 14, 15, 16, 5, 6, 7, 11, 12, 13, 17, 18, 19] Fns.mixed (by decide +kernel) ?_
        simp [h1, h3, h5, h6, h7, hbox, x1]
        refine (word (by have := m1.1; omega) (by have := m1.2; omega) _).mono ?_
        rintro v H2 ⟨rfl, k2⟩
        have hbox2 := hbx H2 (hk.trans k2)
        simp [recheck, h1, h3, h5, h6, h7, hbox2, x1, x2, x3]
        refine (word (by have := m2.1; omega) (by have := m2.2; omega) _).mono ?_
        rintro v H3 ⟨rfl, k3⟩
        have hbox3 := hbx H3 ((hk.trans k2).trans k3)
        simp [recheck, h1, h3, h5, h6, h7, hbox3, x1, x2, x3, x4, x5]
        refine (word (by have := m3.1; omega) (by have := m3.2; omega) _).mono ?_
        rintro v H4 ⟨rfl, k4⟩
        have hbox4 := hbx H4 (((hk.trans k2).trans k3).trans k4)
        simp [recheck, h1, h3, h5, h6, h7, hbox4, x1, x2, x3, x4, x5, x6, hw1]
        exact ⟨⟨((hk.trans k2).trans k3).trans k4, i + 1, by omega, a, rfl, by omega, by omega, by omega, _, hB⟩, by omega⟩
      · rw [if_neg hmay] at hB; cases hB
    case' inr.inr.inr =>
      unfold buildF at hB
      rw [if_neg (by decide), if_neg (by decide)] at hB
      have hs2 := binEv_sadd (x := s1 ++ [32]) (y := c.text) (by simp; omega)
      simp [h1, h3, h5, h6, h7, hil, hil', hb', hbox, hsp, hs2, hw1]
      exact ⟨⟨hk, i + 1, by omega, a, rfl, by omega, by omega, by omega, _, hB⟩, by omega⟩
    all_goals
      unfold buildF at hB
      rw [if_pos (by decide)] at hB
      cases hda : c.nums.drop a with
      | nil => rw [hda] at hB; cases hB
      | cons n N =>
        rw [hda] at hB
        dsimp only at hB
        have hal : a < c.nums.length := by
          have := congrArg List.length hda
          rw [List.length_drop] at this
          simp at this
          omega
        have hng : c.nums[a]? = some n := by
          have := congrArg List.head? hda
          rw [List.head?_drop] at this
          simpa using this
        have hN : N = c.nums.drop (a + 1) := by
          have := congrArg List.tail hda
          rw [List.tail_drop] at this
          simpa using this.symm
        have hnb := hbn n (List.mem_of_getElem? hng)
        have hal' : (a : Int) < (c.nums.length : Int) := by omega
        have l1 := itoa_len5 hnb.1 hnb.2
        have hs2 := binEv_sadd (x := s1 ++ [32]) (y := Lib.itoa n) (by simp; omega)
        rcases hrk with ⟨_, h0⟩ | ⟨j, off, cp, hv, hrd⟩
        · rw [h0] at hal; simp at hal
        · have fn := hrd a n hng
          rw [hv] at hbox
          simp [h1, h3, h5, h6, h7, hil, hil', hb', hbox, hsp, hal', fn]
          refine (word (by omega) (by omega) _).mono ?_
          rintro v H2 ⟨rfl, k2⟩
          simp [h1, h3, h5, h6, h7, hs2, hw1, hw2]
          exact ⟨⟨hk.trans k2, i + 1, by omega, a + 1, by omega, by omega, by omega, by omega, _, by rw [← hN]; exact hB⟩, by omega⟩
  · obtain rfl : i = form.length := by omega
    rw [List.drop_length] at hB
    have hs : s1 = s := by
      unfold buildF at hB
      cases hB
      rfl
    simp [h1, h3, h5, h6, h7, hs]
    exact hkb.trans hk
end Go.Proofs.YthcpfmibcoeleaaDoor.Cm
