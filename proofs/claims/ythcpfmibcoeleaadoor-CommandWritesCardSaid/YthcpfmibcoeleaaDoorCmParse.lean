/- A line's command: what the program's code computes. -/
import Derived.Test.YthcpfmibcoeleaaDoorCmTakes
import Derived.Test.YthcpfmibcoeleaaDoorForms
namespace Go.Proofs.YthcpfmibcoeleaaDoor.Cm
open Go Go.RowKit Am Go.Proofs.YthcpfmibcoeleaaDoor.Id
set_option maxRecDepth 100000
set_option linter.unusedSimpArgs false
set_option linter.unusedVariables false
attribute [-simp] Am.binEv Am.intBin Am.read1
attribute [local simp] binEv_lss binEv_leq binEv_gtr binEv_geq binEv_eql binEv_neq binEv_add binEv_sub binEv_mul binEv_shr58 read1_ro read1_mu binEv_seql binEv_sneq
variable {R : Ro}
/-- What the library answers. -/
structure Lc (R : Ro) : Prop extends Lb R where
  cut : ∀ (s : List UInt8) (H : AH), s.length ≤ 10000 → ACalls Tryd.prog R 23 [.str s, .str [32]] H fun v H' => v = .tuple [.str (cutB s).1, .str (cutB s).2.1, .bool (cutB s).2.2] ∧ H' = H
def letter (b : UInt8) : Bool := decide (b = 108) || decide (b = 110) || decide (b = 112) || decide (b = 116)
theorem form_fine {s form : List UInt8} (h : formOf s = some form) : form.length ≤ 3 ∧ ∀ b ∈ form, b = 108 ∨ b = 110 ∨ b = 112 ∨ b = 116 := by
  have key : ∀ tb : Table, (tb.all fun p => decide (p.2.length ≤ 3) && p.2.all letter) = true → lookP s tb = some form → form.length ≤ 3 ∧ form.all letter = true := by
    intro tb
    induction tb with
    | nil => intro _ h; cases h
    | cons p tb ih =>
      intro ha h
      rw [List.all_cons, Bool.and_eq_true] at ha
      unfold lookP at h
      split at h
      · cases h
        have := ha.1
        rw [Bool.and_eq_true] at this
        exact ⟨of_decide_eq_true this.1, this.2⟩
      · exact ih ha.2 h
  obtain ⟨h1, h2⟩ := key Fns.table (by decide +kernel) h
  refine ⟨h1, fun b hb => ?_⟩
  have := List.all_eq_true.1 h2 b hb
  unfold letter at this
  simp at this
  rcases this with ((h | h) | h) | h <;> simp [h]
def zeros6 : List AV := [.str [], .nilslice, .int .i64 0, .int .i64 0, .int .i64 0, .str []]
/-- What a line comes to. -/
def ParseP (H : AH) (line : List UInt8) (v : AV) (H' : AH) : Prop := Keeps H H' ∧ match parseF line with
  | .ok c => ∃ nv, v = .tuple [.agg (cellsC c nv), .int .i64 0] ∧ RowAt H' nv c.nums.length 1 3 (intsV c.nums) ∧ ∀ i o l cp, nv = .slice (.mu i) o l cp → H.length ≤ i
  | .long => v = .tuple [.agg zeros6, .int .i64 3]
  | .none => v = .tuple [.agg zeros6, .int .i64 4]
  | .form => v = .tuple [.agg zeros6, .int .i64 8]
/-- The place of the answer. -/
theorem res_at {H G : AH} (hk : Keeps (H ++ [.cells zeros6 27]) G) : G[H.length]? = some (.cells zeros6 27) ∧ H.length < G.length ∧ ∀ new : List AV, new.length = 6 → new.all AV.oneCell = true →
    writeN G H.length 0 new = some (G.set H.length (.cells new 27)) ∧ Keeps H (G.set H.length (.cells new 27)) := by
  have h1 : G[H.length]? = some (.cells zeros6 27) := by rw [hk.2 _ (by simp)]; simp
  refine ⟨h1, (List.getElem?_eq_some_iff.1 h1).1, fun new hl ho => ⟨writeN_whole h1 (by rw [hl]; rfl) ho, ?_⟩⟩
  exact (Keeps.trans (Keeps.app H _) hk).set (Nat.le_refl _) _
theorem fill6 (s : List UInt8) : fillA [(0, 1), (1, 1), (2, 3), (5, 1)] [.str [], .nilslice, .int .i64 0, .int .i64 0, .int .i64 0, .str []] [(0, .str s)] = some [.str s, .nilslice, .int .i64 0, .int .i64 0, .int .i64 0, .str []] := rfl
theorem fill60 : fillA [(0, 1), (1, 1), (2, 3), (5, 1)] [.str [], .nilslice, .int .i64 0, .int .i64 0, .int .i64 0, .str []] [] = some [.str [], .nilslice, .int .i64 0, .int .i64 0, .int .i64 0, .str []] := rfl
theorem step_nums {f : UInt8} {w : List UInt8} {c d : Cmd} (h : stepF f w c = some d) : d.nums.length ≤ c.nums.length + 1 := by
  unfold stepF at h
  split at h
  · split at h
    · split at h
      · cases h; simp
      · cases h
    · cases h
  · split at h
    · split at h
      · cases h; simp
      · cases h
    · split at h
      · split at h
        · cases h; simp
        · cases h
      · split at h
        · cases h; simp
        · cases h
set_option maxHeartbeats 8000000 in
theorem parse (L : Lc R) (line : List UInt8) (hl : line.length ≤ 2000) (H : AH) : ACalls Tryd.prog R 10 [.str line] H (ParseP H line) := by
  refine ACalls.of_wpE Fns.ok10 (by simp [Fns.a10]) ?_
  by_cases hlong : 256 < line.length
  · have h1 : (line.length : Int) > 256 := by omega
    have h1' : (256 : Int) < (line.length : Int) := by omega
    obtain ⟨r1, r2, r3⟩ := res_at (Keeps.refl (H ++ [.cells zeros6 27]))
    obtain ⟨r4, r5⟩ := r3 zeros6 rfl rfl
    simp only [zeros6] at r1 r4 r5
    simp [Fns.a10, AV.oneCell, h1', fill60, r4]
    exact ⟨by simpa using r5, by unfold parseF; rw [if_pos hlong]; rfl⟩
  · have h1' : ¬ (256 : Int) < (line.length : Int) := by omega
    have hP : parseF line = match formOf (cutB line).1 with
      | none => .none
      | some form => match loopF form (named (cutB line).1) (cutB line).2.1 (cutB line).2.2 with
        | none => .form
        | some c => .ok c := by unfold parseF; rw [if_neg hlong]; rfl
    simp [Fns.a10, AV.oneCell, h1']
    refine (L.cut line _ (by omega)).mono ?_
    rintro v H1 ⟨rfl, rfl⟩
    have hcl := cutB_len line
    obtain ⟨nm, hnm⟩ : ∃ x, (cutB line).1 = x := ⟨_, rfl⟩
    obtain ⟨rest0, hrest0⟩ : ∃ x, (cutB line).2.1 = x := ⟨_, rfl⟩
    obtain ⟨more0, hmore0⟩ : ∃ x, (cutB line).2.2 = x := ⟨_, rfl⟩
    rw [hnm, hrest0, hmore0] at hP ⊢
    rw [hrest0] at hcl
    simp
    refine (Fns.form_acalls R nm _).mono ?_
    rintro v H1 ⟨rfl, rfl⟩
    cases hform : formOf nm with
    | none =>
      rw [hform] at hP
      have hform' : lookP nm Fns.table = none := hform
      obtain ⟨r1, r2, r3⟩ := res_at (Keeps.refl (H ++ [.cells zeros6 27]))
      obtain ⟨r4, r5⟩ := r3 zeros6 rfl rfl
      simp only [zeros6] at r1 r4 r5
      simp [lookV, hform', AV.oneCell, fill60, r4]
      exact ⟨by simpa using r5, by rw [hP]; rfl⟩
    | some form =>
      rw [hform] at hP
      dsimp only at hP
      have hform' : lookP nm Fns.table = some form := hform
      obtain ⟨hf3, hfl⟩ := form_fine hform
      have hwl := writeN_last0 (H ++ [.cells zeros6 27]) (old := zeros6) (new := cellsC (named nm) .nilslice) 27 rfl rfl
      simp only [zeros6, cellsC, named] at hwl
      obtain ⟨D, hD⟩ : ∃ D, loopF form (named nm) rest0 more0 = D := ⟨_, rfl⟩
      rw [hD] at hP
      obtain ⟨Hb, hHb⟩ : ∃ Hb, Hb = H ++ [AO.cells zeros6 27] := ⟨_, rfl⟩
      have hHb' : Hb = H ++ [AO.cells [.str [], .nilslice, .int .i64 0, .int .i64 0, .int .i64 0, .str []] 27] := hHb
      have hbl : Hb.length = H.length + 1 := by rw [hHb]; simp
      rw [← hHb'] at hwl ⊢
      simp [lookV, hform', AV.oneCell, fill6, hwl]
      refine AWp.loop (fun e H1 => e 2 = .ptr (.mu H.length) 0 ∧ e 9 = .ptr (.mu Hb.length) 0 ∧ e 34 = .ptr (.mu (Hb.length + 1)) 0 ∧ ∃ (i : Nat) (c : Cmd) (nv : AV) (rest : List UInt8) (more : Bool), e 5 = .str rest ∧ e 6 = .bool more ∧ i ≤ form.length ∧
          H1[Hb.length + 1]? = some (.siter form i) ∧ CmAt Hb H1 Hb.length c nv ∧ c.nums.length ≤ i ∧ rest.length ≤ 256 ∧ D = loopF (form.drop i) c rest more)
        (fun _ H1 => match H1[Hb.length + 1]? with | some (.siter _ i) => form.length - i | _ => 0)
        ⟨by simp, by simp, by simp, 0, named nm, .nilslice, rest0, more0, by simp, by simp, by omega, by simp, ⟨by simpa using Keeps.app Hb _, by omega, by simp [cellsC, named], by simpa [named, intsV] using RowAt.nil _ 1 3, fun i o l cp e => by cases e⟩, by simp [named], by omega, by rw [← hD]; simp⟩ ?_
      rintro e H1 ⟨h2, h9, h34, i, c, nv, rest, more, h5, h6, hi, hsi, hC, hnl, hrl, hloop⟩
      refine wpE_sound _ ?_
      obtain ⟨r1, r2, r3⟩ := res_at (H := H) (G := H1) (by rw [← hHb]; exact hC.keeps)
      by_cases hil : i < form.length
      · obtain ⟨b, hb⟩ : ∃ b, form[i]? = some b := ⟨_, List.getElem?_eq_getElem hil⟩
        have hlet := hfl b (List.mem_of_getElem? hb)
        have hb128 : b.toNat < 128 := by rcases hlet with rfl | rfl | rfl | rfl <;> decide
        have hdec := dec_low hb hb128
        have hdrop : form.drop i = b :: form.drop (i + 1) := by
          obtain ⟨h, e⟩ := List.getElem?_eq_some_iff.1 hb
          rw [List.drop_eq_getElem_cons h, e]
        rw [hdrop] at hloop
        unfold loopF at hloop
        obtain ⟨H2, hH2⟩ : ∃ H2, H2 = H1.set (Hb.length + 1) (.siter form (i + 1)) := ⟨_, rfl⟩
        have hlt := (List.getElem?_eq_some_iff.1 hsi).1
        have hsi2 : H2[Hb.length + 1]? = some (.siter form (i + 1)) := by rw [hH2, List.getElem?_set, if_pos rfl, if_pos hlt]
        have hC2 : CmAt Hb H2 Hb.length c nv := by
          rw [hH2]
          refine ⟨hC.keeps.set (by omega) _, hC.low, by rw [List.getElem?_set, if_neg (by omega)]; exact hC.cell, hC.row.frame fun j hj => ?_, hC.apart⟩
          rw [List.getElem?_set, if_neg]
          rintro rfl
          rcases hC.row with ⟨g, _⟩ | ⟨j', g, g2, _⟩
          · rw [g] at hj; cases hj
          · rw [g] at hj
            simp only [AV.slice.injEq, Am.Loc.mu.injEq] at hj
            rw [hj.1, hsi] at g2
            cases g2
        obtain ⟨q1, q2, q3⟩ := res_at (H := H) (G := H2) (by rw [← hHb]; exact hC2.keeps)
        obtain ⟨q4, q5⟩ := q3 zeros6 rfl rfl
        simp only [zeros6] at q1 q4 q5
        simp [h2, h9, h34, hsi, hil, hdec, ← hH2]
        cases more with
        | false =>
          simp at hloop
          simp [h2, h6, fill60, q4, q1, q2]
          exact ⟨q5, by rw [hP, hloop]; rfl⟩
        | true =>
          simp at hloop
          by_cases h116 : b = 116
          · have hb116 : (b.toNat : Int) = 116 := by rw [h116]; rfl
            rw [if_pos h116] at hloop
            simp [h2, h5, h6, h9, hb116]
            have htk := takes L.toLb hC2 b hlet rest (by omega) (by omega)
            rw [hb116] at htk
            refine htk.mono ?_
            rintro v H3 ⟨hSI, hK3, hcase⟩
            obtain ⟨q1, q2, q3⟩ := res_at (H := H) (G := H3) (by rw [← hHb]; exact hK3)
            obtain ⟨q4, q5⟩ := q3 zeros6 rfl rfl
            simp only [zeros6] at q1 q4 q5
            rcases hcase with ⟨d, nv', hst, rfl, hC3⟩ | ⟨hst, rfl⟩
            · rw [hst] at hloop
              dsimp only at hloop
              have hsi3 := hSI _ _ _ hsi2
              have hdn := step_nums hst
              simp [h2, h9, h34, hsi, hsi3]
              exact ⟨⟨i + 1, d, nv', rest, h5, by omega, rfl, hC3, by omega, by omega, hloop⟩, by omega⟩
            · rw [hst] at hloop
              dsimp only at hloop
              simp [h2, fill60, q4, q1, q2]
              exact ⟨q5, by rw [hP, hloop]; rfl⟩
          · have hb116 : ¬ (b.toNat : Int) = 116 := fun e => h116 (by
              have e2 : b.toNat = 116 := by omega
              rw [← UInt8.ofNat_toNat (x := b), e2]; rfl)
            rw [if_neg h116] at hloop
            simp [h2, h5, h6, h9, hb116]
            refine (L.cut rest _ (by omega)).mono ?_
            rintro v H3 ⟨rfl, rfl⟩
            have hcl2 := cutB_len rest
            simp [h2, h5, h6, h9]
            refine (takes L.toLb hC2 b hlet (cutB rest).1 (by omega) (by omega)).mono ?_
            rintro v H3 ⟨hSI, hK3, hcase⟩
            obtain ⟨q1, q2, q3⟩ := res_at (H := H) (G := H3) (by rw [← hHb]; exact hK3)
            obtain ⟨q4, q5⟩ := q3 zeros6 rfl rfl
            simp only [zeros6] at q1 q4 q5
            rcases hcase with ⟨d, nv', hst, rfl, hC3⟩ | ⟨hst, rfl⟩
            · rw [hst] at hloop
              dsimp only at hloop
              have hsi3 := hSI _ _ _ hsi2
              simp [h2, h9, h34, hsi, hsi3]
              have hdn := step_nums hst
              refine ⟨⟨i + 1, d, nv', ?_⟩, by omega⟩
              cases hm : (cutB rest).2.2 with
              | false => exact .inl ⟨rfl, by omega, rfl, hC3, by omega, by omega, by rw [hm] at hloop; exact hloop⟩
              | true => exact .inr ⟨rfl, by omega, rfl, hC3, by omega, by omega, by rw [hm] at hloop; exact hloop⟩
            · rw [hst] at hloop
              dsimp only at hloop
              simp [h2, fill60, q4, q1, q2]
              exact ⟨q5, by rw [hP, hloop]; rfl⟩
      · obtain rfl : i = form.length := by omega
        rw [List.drop_length] at hloop
        unfold loopF at hloop
        cases more with
        | true =>
          obtain ⟨q4, q5⟩ := r3 zeros6 rfl rfl
          simp only [zeros6] at r1 q4 q5
          simp at hloop
          simp [h2, h9, h34, hsi, h6, fill60, q4, r1, r2]
          exact ⟨q5, by rw [hP, hloop]; rfl⟩
        | false =>
          simp at hloop
          have hcc := hC.cell
          obtain ⟨q4, q5⟩ := r3 (cellsC c nv) rfl (by rcases hC.row with ⟨g, _⟩ | ⟨j, g, _⟩ <;> rw [g] <;> rfl)
          simp only [zeros6] at r1
          simp only [cellsC] at hcc q4 q5
          simp [h2, h9, h34, hsi, h6, hcc, q4, r1, r2]
          refine ⟨q5, ?_⟩
          rw [hP, hloop]
          refine ⟨nv, rfl, hC.row.frame fun j hj => ?_, fun j o l cp e => by have := (hC.apart j o l cp e).1; omega⟩
          rw [List.getElem?_set, if_neg]
          have := (hC.apart j _ _ _ hj).1
          omega
def codeR : Res → Int
  | .long => 3
  | .none => 4
  | .form => 8
  | .ok _ => 0
theorem one_row {H : AH} {v : AV} {k sz : Nat} {t : TypeId} {C : List AV} (h : RowAt H v k sz t C) : v.oneCell = true := by
  rcases h with ⟨g, _⟩ | ⟨j, g, _⟩ <;> rw [g] <;> rfl
theorem one_cells {c : Cmd} {nv : AV} (h : nv.oneCell = true) : (cellsC c nv).all AV.oneCell = true := by
  show (true && (nv.oneCell && true)) = true
  rw [h]; rfl
theorem parse_code {H H' : AH} {line : List UInt8} {v : AV} (h : ParseP H line v H') : ∃ cs, v = .tuple [.agg cs, .int .i64 (codeR (parseF line))] ∧ cs.length = 6 ∧ cs.all AV.oneCell = true := by
  obtain ⟨_, h⟩ := h
  cases hp : parseF line with
  | ok c =>
    rw [hp] at h
    obtain ⟨nv, rfl, hr, _⟩ := h
    exact ⟨_, rfl, rfl, one_cells (one_row hr)⟩
  | _ =>
    rw [hp] at h
    exact ⟨_, h, rfl, rfl⟩
end Go.Proofs.YthcpfmibcoeleaaDoor.Cm
