/- What is wrong of a line is told in its order: what the law's code computes. -/
import Derived.Test.YthcpfmibcoeleaaDoorCmParse
namespace Go.Proofs.YthcpfmibcoeleaaDoor.Cm
open Go Go.RowKit Am Go.Proofs.YthcpfmibcoeleaaDoor.Id
set_option maxRecDepth 100000
set_option linter.unusedSimpArgs false
set_option linter.unusedVariables false
attribute [-simp] Am.binEv Am.intBin Am.read1
attribute [local simp] binEv_lss binEv_leq binEv_gtr binEv_geq binEv_eql binEv_neq binEv_add binEv_sub binEv_mul binEv_shr58 read1_ro read1_mu binEv_seql binEv_sneq
variable {R : Ro}
set_option maxHeartbeats 4000000 in
theorem law_order (L : Lc R) (haw : ∀ H, ACalls Tryd.prog R 9 [] H fun v H' => H' = H ∧ v = .bool true) (name rest : List UInt8) :
    ACalls Tryd.prog R 6 [.str name, .str rest] [] fun v _ => v = .bool true := by
  refine ACalls.of_wpE Fns.ok6 (by simp [Fns.a6]) ?_
  by_cases hn : name.length ≤ 40
  · have hn1 : ¬ (40 : Int) < (name.length : Int) := by omega
    by_cases hr : rest.length ≤ 300
    · have hr1 : ¬ (300 : Int) < (rest.length : Int) := by omega
      simp [Fns.a6, hn1, hr1]
      refine AWp.mono (Q := fun ex e H1 => H1 = [] ∧ ((ex = .exit 0 ∧ e 0 = .str name ∧ e 1 = .str rest ∧ (∀ b ∈ name, b ≠ 32)) ∨ (ex = .ret ∧ e 4 = .bool true)))
        (AWp.loop (fun e H1 => H1 = [] ∧ e 0 = .str name ∧ e 1 = .str rest ∧ ∃ i : Nat, e 5 = .int .i64 i ∧ i ≤ name.length ∧ ∀ b ∈ name.take i, b ≠ 32)
        (fun e _ => match e 5 with | .int _ i => ((name.length : Int) - i).toNat | _ => 0) ⟨rfl, by simp, by simp, 0, by simp, by omega, by simp⟩ ?_) ?_
      · rintro e H1 ⟨rfl, h0, h1, i, h5, hi, hall⟩
        refine wpE_sound _ ?_
        by_cases hl : i < name.length
        · have hl' : (i : Int) < (name.length : Int) := by omega
          have hw1 : IntKind.i64.wrap ((i : Int) + 1) = (i : Int) + 1 := i64_ok _ (by omega) (by omega)
          obtain ⟨b, hb⟩ : ∃ b, name[i]? = some b := ⟨_, List.getElem?_eq_getElem hl⟩
          have hb' : ∀ h, name[i]'h = b := fun h => by rw [List.getElem?_eq_getElem h] at hb; exact Option.some.inj hb
          by_cases h32 : b = 32
          · have hbi : (b.toNat : Int) = 32 := by rw [h32]; rfl
            simp [h0, h1, h5, hl, hl', hb', hbi, h32]
            refine (haw _).mono ?_
            rintro v H2 ⟨rfl, rfl⟩
            simp
          · have hbi : ¬ (b.toNat : Int) = 32 := fun e => h32 (by
              have e2 : b.toNat = 32 := by omega
              rw [← UInt8.ofNat_toNat (x := b), e2]; rfl)
            simp [h0, h1, h5, hl, hl', hb', hbi, hw1]
            refine ⟨⟨i + 1, by omega, by omega, fun x hx => ?_⟩, by omega⟩
            rw [List.take_add_one, hb] at hx
            simp at hx
            rcases hx with hx | rfl
            · exact hall x hx
            · exact h32
        · obtain rfl : i = name.length := by omega
          rw [List.take_length] at hall
          simp [h0, h1, h5]
          exact hall
      · rintro ex e H1 ⟨rfl, ⟨rfl, h0, h1, hb⟩ | ⟨rfl, h4⟩⟩
        · have hs1 := binEv_sadd (x := name) (y := [32]) (by simp; omega)
          have hs2 := binEv_sadd (x := name ++ [32]) (y := rest) (by simp; omega)
          obtain ⟨line, hline⟩ : ∃ l, l = name ++ [32] ++ rest := ⟨_, rfl⟩
          have hline' : line = name ++ 32 :: rest := by rw [hline]; simp
          have hll : line.length = name.length + 1 + rest.length := by rw [hline]; simp; omega
          rw [← hline] at hs2
          have w1 : IntKind.i64.wrap ((name.length : Int) + 1) = (name.length : Int) + 1 := i64_ok _ (by omega) (by omega)
          have w2 : IntKind.i64.wrap ((name.length : Int) + 1 + rest.length) = (name.length : Int) + 1 + rest.length := i64_ok _ (by omega) (by omega)
          simp [h0, h1, hs1, hs2]
          refine (parse L line (by omega) _).mono ?_
          rintro v H2 hv
          obtain ⟨cs, rfl, hc6, hc1⟩ := parse_code hv
          have hst := writeN_last0 H2 (old := [.str [], .nilslice, .int .i64 0, .int .i64 0, .int .i64 0, .str []]) (new := cs) 27 (by rw [hc6]; rfl) hc1
          simp [AV.oneCell, hc6, hst, h0]
          refine (parse L name (by omega) _).mono ?_
          rintro v H3 hv3
          obtain ⟨cs3, rfl, hc63, hc13⟩ := parse_code hv3
          have hst3 := writeN_last0 H3 (old := [.str [], .nilslice, .int .i64 0, .int .i64 0, .int .i64 0, .str []]) (new := cs3) 27 (by rw [hc63]; rfl) hc13
          simp [AV.oneCell, hc63, hst3, h0]
          refine (Fns.form_acalls R name _).mono ?_
          rintro v H4 ⟨rfl, rfl⟩
          have hbare := order_bare hb hn
          by_cases hlong : 256 < line.length
          · have hlong' : (256 : Int) < (name.length : Int) + 1 + rest.length := by omega
            have hp : parseF line = .long := by unfold parseF; rw [if_pos hlong]
            cases hf : lookP name Fns.table with
            | none =>
              simp [lookV, hf, h0, h1, w1, w2, hlong', hp, codeR]
              refine (haw _).mono ?_
              rintro v H2 ⟨rfl, rfl⟩
              simp
            | some form =>
              simp [lookV, hf, h0, h1, w1, w2, hlong', hp, codeR]
              refine (haw _).mono ?_
              rintro v H2 ⟨rfl, rfl⟩
              simp
          · have hlong' : ¬ (256 : Int) < (name.length : Int) + 1 + rest.length := by omega
            obtain ⟨o1, o2, o3⟩ := order_more (rest := rest) hb (by rw [← hline']; exact hlong)
            rw [← hline'] at o1 o2 o3
            have hff : formOf name = lookP name Fns.table := rfl
            cases hf : lookP name Fns.table with
            | none =>
              rw [hff, hf] at hbare o1
              have hp := o1 rfl
              dsimp only at hbare
              simp [lookV, hf, h0, h1, w1, w2, hlong', hp, hbare, codeR]
              refine (haw _).mono ?_
              rintro v H2 ⟨rfl, rfl⟩
              simp
            | some form =>
              cases form with
              | nil =>
                rw [hff, hf] at hbare o2
                have hp := o2 rfl
                dsimp only at hbare
                simp [lookV, hf, h0, h1, w1, w2, hlong', hp, hbare, codeR, eqEv]
                refine (haw _).mono ?_
                rintro v H2 ⟨rfl, rfl⟩
                simp
              | cons f fs =>
                rw [hff, hf] at hbare
                have hp := o3 f fs (by rw [hff, hf])
                dsimp only at hbare
                rcases hp with hp | ⟨c, hp⟩
                · simp [lookV, hf, h0, h1, w1, w2, hlong', hp, hbare, codeR, eqEv]
                  refine (haw _).mono ?_
                  rintro v H2 ⟨rfl, rfl⟩
                  simp
                · simp [lookV, hf, h0, h1, w1, w2, hlong', hp, hbare, codeR, eqEv]
                  refine (haw _).mono ?_
                  rintro v H2 ⟨rfl, rfl⟩
                  simp
        · simp [h4]
    · have hr1 : (300 : Int) < (rest.length : Int) := by omega
      simp [Fns.a6, hn1, hr1]
      refine (haw _).mono ?_
      rintro v H2 ⟨rfl, rfl⟩
      simp
  · have hn1 : (40 : Int) < (name.length : Int) := by omega
    simp [Fns.a6, hn1]
    refine (haw _).mono ?_
    rintro v H2 ⟨rfl, rfl⟩
    simp
end Go.Proofs.YthcpfmibcoeleaaDoor.Cm
