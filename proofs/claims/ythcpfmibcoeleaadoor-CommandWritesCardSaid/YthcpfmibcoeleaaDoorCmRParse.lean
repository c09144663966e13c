/- The document's command that is being read. -/
import Derived.Test.YthcpfmibcoeleaaDoorCmTakes
import Derived.Test.YthcpfmibcoeleaaDoorAmKeys
import Derived.Test.YthcpfmibcoeleaaDoorForms
import Derived.Test.YthcpfmibcoeleaaDoorCmParse
import Derived.Test.YthcpfmibcoeleaaDoorCmRPure
import Derived.Test.YthcpfmibcoeleaaDoorCmRPane
namespace Go.Proofs.YthcpfmibcoeleaaDoor.Cm
open Go Go.RowKit Am Go.Proofs.YthcpfmibcoeleaaDoor.Id
set_option maxRecDepth 100000
set_option linter.unusedSimpArgs false
set_option linter.unusedVariables false
attribute [-simp] Am.binEv Am.intBin Am.read1
variable {R : Ro}
/-- A command that is being read. -/
structure CmAr (H0 H : AH) (p : Nat) (c : Cmd) (nv : AV) : Prop where
  keeps : Keeps H0 H
  low : H0.length ≤ p
  cell : H[p]? = some (.cells (cellsC c nv) 31)
  row : RowAt H nv c.nums.length 1 3 (intsV c.nums)
  apart : ∀ i o l cp, nv = .slice (.mu i) o l cp → H0.length ≤ i ∧ i ≠ p
/-- The words go on lying there. -/
def WI (H H' : AH) : Prop := ∀ (i : Nat) (C : List AV), H[i]? = some (AO.row C 9 1) → H'[i]? = some (AO.row C 9 1)
theorem WI.refl (H : AH) : WI H H := fun _ _ h => h
theorem WI.app (H E : AH) : WI H (H ++ E) := fun i C h => by rw [List.getElem?_append_left (List.getElem?_eq_some_iff.1 h).1]; exact h
theorem WI.trans {A B C : AH} (h : WI A B) (k : WI B C) : WI A C := fun i s e => k i s (h i s e)
theorem WI.keep {A B : AH} (h : Keeps A B) : WI A B := fun i C e => by rw [h.2 i (List.getElem?_eq_some_iff.1 e).1]; exact e
theorem WI.set {H : AH} {p : Nat} {c : List AV} {t : TypeId} (h : H[p]? = some (.cells c t)) (o : AO) : WI H (H.set p o) := fun i C e => by
  rw [List.getElem?_set, if_neg (by rintro rfl; rw [h] at e; cases e)]
  exact e
theorem CmAr.app {H0 H : AH} {p : Nat} {c : Cmd} {nv : AV} (h : CmAr H0 H p c nv) (E : AH) : CmAr H0 (H ++ E) p c nv :=
  ⟨h.keeps.trans (Keeps.app H E), h.low, by rw [List.getElem?_append_left (List.getElem?_eq_some_iff.1 h.cell).1]; exact h.cell, RowAt.keep h.row (Keeps.app H E), h.apart⟩
theorem CmAr.put {H0 H : AH} {p : Nat} {c d : Cmd} {nv : AV} (h : CmAr H0 H p c nv) (hd : d.nums = c.nums) : CmAr H0 (H.set p (.cells (cellsC d nv) 31)) p d nv := by
  have hlt := (List.getElem?_eq_some_iff.1 h.cell).1
  refine ⟨h.keeps.set h.low _, h.low, by rw [List.getElem?_set, if_pos rfl, if_pos hlt], ?_, h.apart⟩
  rw [hd]
  exact h.row.frame fun j hj => by rw [List.getElem?_set, if_neg (fun e => (h.apart j _ _ _ hj).2 e.symm)]
theorem CmAr.push {H0 H : AH} {p : Nat} {c : Cmd} {nv : AV} (h : CmAr H0 H p c nv) (n : Int) (hn : c.nums.length ≤ 100) :
    ∃ G, appendEv R (H ++ [.cells [.int .i64 n] 3]) 3 1 8 nv (.slice (.mu H.length) 0 1 (.known 1)) = some (.slice (.mu (H.length + 1)) 0 (c.nums.length + 1) (.opn 0), G) ∧
      writeN G p 1 [.slice (.mu (H.length + 1)) 0 (c.nums.length + 1) (.opn 0)] = some (G.set p (.cells (cellsC { c with nums := c.nums ++ [n] } (.slice (.mu (H.length + 1)) 0 (c.nums.length + 1) (.opn 0))) 31)) ∧
      CmAr H0 (G.set p (.cells (cellsC { c with nums := c.nums ++ [n] } (.slice (.mu (H.length + 1)) 0 (c.nums.length + 1) (.opn 0))) 31)) p { c with nums := c.nums ++ [n] } (.slice (.mu (H.length + 1)) 0 (c.nums.length + 1) (.opn 0)) ∧
      WI H (G.set p (.cells (cellsC { c with nums := c.nums ++ [n] } (.slice (.mu (H.length + 1)) 0 (c.nums.length + 1) (.opn 0))) 31)) := by
  have hlt := (List.getElem?_eq_some_iff.1 h.cell).1
  have h1 := h.app [.cells [.int .i64 n] 3]
  obtain ⟨G, hG, hl, hr, hf⟩ := append_row (R := R) (by' := 8) h1.row (src_cells (s := H.length) (m := 1) (c := [.int .i64 n]) (t := 3) (cap := .known 1) (by simp) (by simp)) (by omega) (by omega) (by omega) (by omega) (by simp [AV.oneCell]) (by simp)
  simp only [List.length_append, List.length_cons, List.length_nil, Nat.zero_add] at hG hl hr hf
  have hGp : G[p]? = some (.cells (cellsC c nv) 31) := by
    rw [hf p (by omega) (fun o l cp e => (h.apart p o l cp e).2 rfl)]
    exact h1.cell
  have hw := writeN_cell hGp (i := 1) (by simp [cellsC]) (.slice (.mu (H.length + 1)) 0 (c.nums.length + 1) (.opn 0)) rfl
  have hset : (cellsC c nv).set 1 (.slice (.mu (H.length + 1)) 0 (c.nums.length + 1) (.opn 0)) = cellsC { c with nums := c.nums ++ [n] } (.slice (.mu (H.length + 1)) 0 (c.nums.length + 1) (.opn 0)) := rfl
  rw [hset] at hw
  have hkG : Keeps H0 G := ⟨by have := h.keeps.1; omega, fun i hi => by
    have := h.keeps.1
    rw [hf i (by omega) (fun o l cp e => by have := (h.apart i o l cp e).1; omega), List.getElem?_append_left (by omega)]
    exact h.keeps.2 i hi⟩
  refine ⟨G, hG, hw, ⟨hkG.set h.low _, h.low, by rw [List.getElem?_set, if_pos rfl, if_pos (by omega)], ?_, fun i o l cp e => ?_⟩, ?_⟩
  · have hr2 : RowAt G (.slice (.mu (H.length + 1)) 0 (c.nums.length + 1) (.opn 0)) (c.nums ++ [n]).length 1 3 (intsV (c.nums ++ [n])) := by
      have e : intsV (c.nums ++ [n]) = intsV c.nums ++ [.int .i64 n] := by simp [intsV]
      rw [e, List.length_append]
      exact hr
    exact hr2.frame fun j hj => by
      simp only [AV.slice.injEq, Am.Loc.mu.injEq] at hj
      rw [List.getElem?_set, if_neg (by omega)]
  · simp only [AV.slice.injEq, Am.Loc.mu.injEq] at e
    have := h.keeps.1
    omega
  · refine WI.trans (B := G) (fun i C e => ?_) (WI.set hGp _)
    have hi := (List.getElem?_eq_some_iff.1 e).1
    rw [hf i (by omega) (fun o l cp e2 => ?_), List.getElem?_append_left hi]
    · exact e
    · rcases h.row with ⟨h2, _⟩ | ⟨j, h2, h3, _⟩
      · rw [h2] at e2; cases e2
      · rw [h2] at e2
        simp only [AV.slice.injEq, Am.Loc.mu.injEq] at e2
        rw [e2.1, e] at h3
        cases h3
theorem CmAr.keep {H0 H H' : AH} {p : Nat} {c : Cmd} {nv : AV} (h : CmAr H0 H p c nv) (hk : Keeps H H') : CmAr H0 H' p c nv :=
  ⟨h.keeps.trans hk, h.low, by rw [hk.2 _ (List.getElem?_eq_some_iff.1 h.cell).1]; exact h.cell, RowAt.keep h.row hk, h.apart⟩
end Go.Proofs.YthcpfmibcoeleaaDoor.Cm
namespace Go.Proofs.YthcpfmibcoeleaaDoor.Cm
open Go Go.RowKit Am Go.Proofs.YthcpfmibcoeleaaDoor.Id
set_option maxRecDepth 100000
set_option linter.unusedSimpArgs false
set_option linter.unusedVariables false
attribute [-simp] Am.binEv Am.intBin Am.read1
attribute [local simp] binEv_seql binEv_sneq
variable {R : Ro}
noncomputable section
def tab19 : FuncId → Option AFn
  | 19 => some Fns.a19
  | _ => none
theorem tab19_ok : ∀ f af, tab19 f = some af → FnOk Tryd.prog f af := by
  intro f af h
  unfold tab19 at h
  split at h
  · cases h; exact Fns.ok19
  · cases h
def isForm (f : List UInt8) : AV → HT → Nat → Bool := fun v _ _ => match v with
  | .tuple [.str a, .bool b] => eqU a f && b
  | _ => false
theorem rform_ev (R : Ro) : (Fns.table.all fun p => (runM Tryd.prog R tab19 noCtr 50).call 19 [.str p.1] .nil 0 (isForm p.2)) = true := by kernel_rfl
theorem look_mem {s f : List UInt8} : ∀ {tb : Table}, lookP s tb = some f → (s, f) ∈ tb
  | [], h => by cases h
  | p :: tb, h => by
    unfold lookP at h
    split at h
    · rename_i e; cases h; rw [← e]; exact List.mem_cons_self
    · exact List.mem_cons_of_mem _ (look_mem h)
theorem look_none {s : List UInt8} : ∀ {tb : Table}, lookP s tb = none → ∀ p ∈ tb, ¬ s = p.1
  | [], _, p, hp, _ => by cases hp
  | q :: tb, h, p, hp, e => by
    unfold lookP at h
    split at h
    · cases h
    · rename_i hne
      rcases List.mem_cons.1 hp with rfl | hp
      · exact hne e.symm
      · exact look_none h p hp e
theorem rform_some {s f : List UInt8} (h : lookP s Fns.table = some f) (H : AH) : ACalls Tryd.prog R 19 [.str s] H fun v H' => H' = H ∧ v = .tuple [.str f, .bool true] := by
  have he := List.all_eq_true.1 (rform_ev R) _ (look_mem h)
  refine ACalls.anywhere (K := fun v => v = .tuple [.str f, .bool true]) (by simp [renL, ren]) ((((run_ok Fns.mixed tab19_ok noCtr_ok 50).2 19 [.str s] .nil 0 _ [] sim_nil he).mono fun v H1 ⟨h, n, sm, hk⟩ => ?_)) H
  unfold isForm at hk
  split at hk
  · rename_i a b
    rw [Bool.and_eq_true] at hk
    obtain ⟨h1, rfl⟩ := hk
    rw [(eqU_iff _ _).1 h1]
    exact ⟨by simp [ren, renL], rfl⟩
  · cases hk
set_option maxHeartbeats 4000000 in
theorem rform_none {s : List UInt8} (h : lookP s Fns.table = none) (H : AH) : ACalls Tryd.prog R 19 [.str s] H fun v H' => H' = H ∧ v = .tuple [.str [], .bool false] := by
  have hn := look_none h
  simp only [Fns.table, List.mem_cons, List.not_mem_nil, or_false, forall_eq_or_imp, forall_eq] at hn
  refine ACalls.of_wpE Fns.ok19 (by simp [Fns.a19]) ?_
  simp [Fns.a19, hn]
end
end Go.Proofs.YthcpfmibcoeleaaDoor.Cm
namespace Go.Proofs.YthcpfmibcoeleaaDoor.Cm
open Go Go.RowKit Am Go.Proofs.YthcpfmibcoeleaaDoor.Id
set_option maxRecDepth 100000
set_option linter.unusedSimpArgs false
set_option linter.unusedVariables false
attribute [-simp] Am.binEv Am.intBin Am.read1
attribute [local simp] binEv_lss binEv_leq binEv_gtr binEv_geq binEv_eql binEv_neq binEv_add binEv_sub binEv_mul binEv_shr58 read1_ro read1_mu binEv_seql binEv_sneq
variable {R : Ro}
theorem res_atR {H G : AH} (hk : Keeps (H ++ [.cells zeros6 31]) G) : G[H.length]? = some (.cells zeros6 31) ∧ H.length < G.length ∧ ∀ new : List AV, new.length = 6 → new.all AV.oneCell = true →
    writeN G H.length 0 new = some (G.set H.length (.cells new 31)) ∧ Keeps H (G.set H.length (.cells new 31)) := by
  have h1 : G[H.length]? = some (.cells zeros6 31) := by rw [hk.2 _ (by simp)]; simp
  refine ⟨h1, (List.getElem?_eq_some_iff.1 h1).1, fun new hl ho => ⟨writeN_whole h1 (by rw [hl]; rfl) ho, ?_⟩⟩
  exact (Keeps.trans (Keeps.app H _) hk).set (Nat.le_refl _) _
def rM : AC := Fns.a11.body.snd.snd.snd.snd.snd.snd.fst
def rR : AC := Fns.a11.body.snd.snd.snd.snd.snd.snd.snd
theorem body11 : Fns.a11.body = .seq Fns.a11.body.fst (.seq Fns.a11.body.snd.fst (.seq Fns.a11.body.snd.snd.fst (.seq Fns.a11.body.snd.snd.snd.fst (.seq Fns.a11.body.snd.snd.snd.snd.fst (.seq Fns.a11.body.snd.snd.snd.snd.snd.fst (.seq rM rR)))))) := rfl
/-- A row with words in it. -/
theorem row_slice {H : AH} {v : AV} {W : List (List UInt8)} (h : RowAt H v W.length 1 9 (strV W)) (hne : W ≠ []) : ∃ j, v = .slice (.mu j) 0 W.length (.opn 0) ∧ H[j]? = some (.row (strV W) 9 1) := by
  rcases h with ⟨_, h, _⟩ | ⟨j, h1, h2, _⟩
  · exact absurd (List.length_eq_zero_iff.1 h) hne
  · exact ⟨j, h1, h2⟩
theorem wW_len : ∀ (k : Nat) (s x : List UInt8), x ∈ wW k s → x.length ≤ s.length
  | 0, s, x, h => by simp [wW] at h; rw [h]; exact Nat.le_refl _
  | k + 1, s, x, h => by
    have hc := cutB_len s
    unfold wW at h
    split at h
    · rcases List.mem_cons.1 h with rfl | h
      · exact hc.1
      · have := wW_len k _ x h; omega
    · simp at h; rw [h]; exact Nat.le_refl _
theorem num_step108 {w : List UInt8} {c : Cmd} {v : AV} (h : NumP w 0 63 v) : ∃ (z : Int) (ok : Bool), v = .tuple [.int .i64 z, .bool ok] ∧ stepF 108 w c = if ok then some { c with nums := c.nums ++ [z] } else none := by
  rw [step_label]
  unfold NumP at h
  cases hn : numR w with
  | none => rw [hn] at h; exact ⟨0, false, h, rfl⟩
  | some n =>
    rw [hn] at h
    dsimp only at h ⊢
    refine ⟨n, _, h, ?_⟩
    by_cases hb : 0 ≤ n ∧ n ≤ 63
    · rw [if_pos hb]; simp [hb]
    · rw [if_neg hb, ← Bool.decide_and, decide_eq_false hb]; rfl
theorem num_step110 {w : List UInt8} {c : Cmd} {v : AV} (h : NumP w (-9999) 9999 v) : ∃ (z : Int) (ok : Bool), v = .tuple [.int .i64 z, .bool ok] ∧ stepF 110 w c = if ok then some { c with nums := c.nums ++ [z] } else none := by
  rw [step_num]
  unfold NumP at h
  cases hn : numR w with
  | none => rw [hn] at h; exact ⟨0, false, h, rfl⟩
  | some n =>
    rw [hn] at h
    dsimp only at h ⊢
    refine ⟨n, _, h, ?_⟩
    by_cases hb : -9999 ≤ n ∧ n ≤ 9999
    · rw [if_pos hb]; simp [hb]
    · rw [if_neg hb, ← Bool.decide_and, decide_eq_false hb]; rfl
set_option maxHeartbeats 16000000 in
theorem rparse (line : List UInt8) (hl : line.length ≤ 2000) (H : AH) : ACalls Tryd.prog R 11 [.str line] H (ParseP H line) := by
  refine ACalls.of_body Fns.ok11 (by simp [Fns.a11]) ?_
  rw [body11]
  refine AWp.seq (wpE_sound _ ?_)
  simp [Fns.a11, AC.fst, AC.snd, AV.oneCell]
  refine AWp.seq (wpE_sound _ ?_)
  obtain ⟨r1, r2, r3⟩ := res_atR (Keeps.refl (H ++ [.cells zeros6 31]))
  obtain ⟨r4, r5⟩ := r3 zeros6 rfl rfl
  simp only [zeros6] at r1 r4 r5
  by_cases hlong : 256 < line.length
  · have h1' : (256 : Int) < (line.length : Int) := by omega
    simp [Fns.a11, AC.fst, AC.snd, h1', fill60, r4]
    exact ⟨by simpa using r5, by unfold parseF; rw [if_pos hlong]; rfl⟩
  · have h1' : ¬ (256 : Int) < (line.length : Int) := by omega
    have hP : parseF line = match formOf (cutB line).1 with
      | none => .none
      | some form => match loopF form (named (cutB line).1) (cutB line).2.1 (cutB line).2.2 with
        | none => .form
        | some c => .ok c := by unfold parseF; rw [if_neg hlong]; rfl
    simp [Fns.a11, AC.fst, AC.snd, h1']
    refine AWp.seq (wpE_sound _ ?_)
    obtain ⟨Hb, hHb⟩ : ∃ Hb, Hb = H ++ [AO.cells zeros6 31] := ⟨_, rfl⟩
    have hHb' : Hb = H ++ [AO.cells [.str [], .nilslice, .int .i64 0, .int .i64 0, .int .i64 0, .str []] 31] := hHb
    have hbl : Hb.length = H.length + 1 := by rw [hHb]; simp
    rw [← hHb']
    simp [Fns.a11, AC.fst, AC.snd]
    refine (rwords line hl 0 (by omega) _).mono ?_
    intro v0 H2 hr0
    have hK0 : cutsOf 0 line = line.length + 1 := by unfold cutsOf; rw [if_pos (by omega)]
    rw [hK0] at hr0
    obtain ⟨j0, rfl, hj0⟩ := row_slice hr0.row (wW_ne _ _)
    obtain ⟨nm, hnm⟩ : ∃ x, (cutB line).1 = x := ⟨_, rfl⟩
    have hhead := wW_head line.length line
    rw [hnm] at hhead
    obtain ⟨ws0, hws0⟩ : ∃ ws0, wW (line.length + 1) line = nm :: ws0 := by
      cases hw : wW (line.length + 1) line with
      | nil => exact absurd hw (wW_ne _ _)
      | cons y ys => rw [hw] at hhead; exact ⟨ys, by rw [Option.some.inj hhead]⟩
    rw [hws0] at hj0 ⊢
    simp only [strV, List.map_cons] at hj0
    have hwl := writeN_last0 H2 (old := zeros6) (new := cellsC (named nm) .nilslice) 31 rfl rfl
    simp only [zeros6, cellsC, named] at hwl
    simp [hj0, fill6, AV.oneCell, hwl]
    refine AWp.seq (wpE_sound _ ?_)
    simp [Fns.a11, AC.fst, AC.snd]
    have hk2 : Keeps Hb H2 := hr0.keeps
    have hH2l : Hb.length ≤ H2.length := hk2.1
    obtain ⟨H3, hH3⟩ : ∃ H3, H3 = H2 ++ [AO.cells [AV.str nm, .nilslice, .int .i64 0, .int .i64 0, .int .i64 0, .str []] 31] := ⟨_, rfl⟩
    rw [← hH3]
    have hC : CmAr Hb H3 H2.length (named nm) .nilslice := by
      rw [hH3]
      exact ⟨hk2.trans (Keeps.app _ _), hH2l, by simp [cellsC, named], by simpa [named, intsV] using RowAt.nil _ 1 3, fun i o l cp e => by cases e⟩
    rw [hnm] at hP
    obtain ⟨q1, q2, q3⟩ := res_atR (H := H) (G := H3) (by rw [← hHb]; exact hC.keeps)
    obtain ⟨q4, q5⟩ := q3 zeros6 rfl rfl
    simp only [zeros6] at q1 q4 q5
    cases hform : lookP nm Fns.table with
    | none =>
      have hform' : formOf nm = none := hform
      rw [hform'] at hP
      refine (rform_none hform _).mono ?_
      rintro v H4 ⟨rfl, rfl⟩
      simp
      refine AWp.seq (wpE_sound _ ?_)
      simp [Fns.a11, AC.fst, AC.snd, fill60, q4, q1, q2]
      exact ⟨q5, by rw [hP]; rfl⟩
    | some form =>
      have hform' : formOf nm = some form := hform
      rw [hform'] at hP
      dsimp only at hP
      obtain ⟨hf3, hfl⟩ := form_fine hform'
      have hft := form_text hform'
      obtain ⟨ws, hws, hloop⟩ := parse_words (line := line) hft
      rw [hnm] at hws hloop
      rw [hloop] at hP
      refine (rform_some hform _).mono ?_
      rintro v H4 ⟨rfl, rfl⟩
      simp
      refine AWp.seq (wpE_sound _ ?_)
      simp [Fns.a11, AC.fst, AC.snd]
      refine AWp.seq (wpE_sound _ ?_)
      simp [Fns.a11, AC.fst, AC.snd]
      refine AWp.seq (AWp.mono (Q := fun ex e H1 => ex = .normal ∧ H1 = H4 ∧ e 0 = .str line ∧ e 2 = .ptr (.mu H.length) 0 ∧ e 4 = .ptr (.mu H2.length) 0 ∧ e 5 = .str form ∧ e 7 = .int .i64 (mostOf form)) (wpE_sound _ ?_) ?_)
      · unfold mostOf
        by_cases hnil : form = []
        · subst hnil
          simp [rM, Fns.a11, AC.fst, AC.snd]
        · have hpos : 0 < form.length := by cases form with | nil => exact absurd rfl hnil | cons a b => simp
          have hpos' : (0 : Int) < (form.length : Int) := by omega
          have hw1 : IntKind.i64.wrap ((form.length : Int) - 1) = (form.length : Int) - 1 := i64_ok _ (by omega) (by omega)
          have hw2 : IntKind.i64.wrap ((form.length : Int) + 1) = (form.length : Int) + 1 := i64_ok _ (by omega) (by omega)
          have ht : ((form.length : Int) - 1).toNat = form.length - 1 := by omega
          have hge : (0 : Int) ≤ (form.length : Int) - 1 := by omega
          have hge' : (1 : Int) ≤ (form.length : Int) := by omega
          obtain ⟨l, hlast⟩ : ∃ l, form[form.length - 1]? = some l := ⟨_, List.getElem?_eq_getElem (by omega)⟩
          have hlast' : ∀ h, form[form.length - 1]'h = l := fun h => by rw [List.getElem?_eq_getElem h] at hlast; exact Option.some.inj hlast
          have hgl : form.getLast? = some l := by rw [List.getLast?_eq_getElem?]; exact hlast
          have hlt : form.length - 1 < form.length := by omega
          rw [hgl]
          by_cases h116 : l = 116
          · have hb116 : (l.toNat : Int) = 116 := by rw [h116]; rfl
            simp [rM, Fns.a11, AC.fst, AC.snd, hpos, hpos', hnil, hw1, hw2, ht, hge, hge', hlast, hlast', hlt, hb116, h116]
          · have hb116 : ¬ (l.toNat : Int) = 116 := fun e => h116 (by
              have e2 : l.toNat = 116 := by omega
              rw [← UInt8.ofNat_toNat (x := l), e2]; rfl)
            simp [rM, Fns.a11, AC.fst, AC.snd, hpos, hpos', hnil, hw1, hw2, ht, hge, hge', hlast, hlast', hlt, hb116, h116]
      · rintro ex e H1 ⟨rfl, rfl, h0, h2, h4, h5, h7⟩
        refine wpE_sound _ ?_
        simp [rR, Fns.a11, AC.fst, AC.snd, h0, h7]
        have hmo : 0 ≤ mostOf form ∧ mostOf form ≤ 100 := by unfold mostOf; split <;> omega
        refine (rwords line hl (mostOf form) hmo _).mono ?_
        intro v8 H5 hr8
        rw [hws] at hr8
        obtain ⟨j8, rfl, hj8⟩ := row_slice hr8.row (by simp)
        have hC5 := hC.keep hr8.keeps
        obtain ⟨q1, q2, q3⟩ := res_atR (H := H) (G := H5) (by rw [← hHb]; exact hC5.keeps)
        obtain ⟨q4, q5⟩ := q3 zeros6 rfl rfl
        simp only [zeros6] at q1 q4 q5
        have hwf : IntKind.i64.wrap ((form.length : Int) + 1) = (form.length : Int) + 1 := i64_ok _ (by omega) (by omega)
        by_cases hlen : ws.length = form.length
        · simp [h2, h4, h5, hwf, hlen]
          obtain ⟨D, hD⟩ : ∃ D, stepsF form ws (named nm) = D := ⟨_, rfl⟩
          rw [hD] at hP
          refine AWp.loop (fun e H1 => e 2 = .ptr (.mu H.length) 0 ∧ e 4 = .ptr (.mu H2.length) 0 ∧ e 5 = .str form ∧ e 8 = .slice (.mu j8) 0 (form.length + 1) (.opn 0) ∧ ∃ (i : Nat) (c : Cmd) (nv : AV), e 9 = .int .i64 i ∧ i ≤ form.length ∧
              CmAr Hb H1 H2.length c nv ∧ H1[j8]? = some (.row (strV (nm :: ws)) 9 1) ∧ c.nums.length ≤ i ∧ D = stepsF (form.drop i) (ws.drop i) c)
            (fun e _ => match e 9 with | .int _ i => ((form.length : Int) - i).toNat | _ => 0)
            ⟨by simp [h2], by simp [h4], by simp [h5], by simp, 0, named nm, .nilslice, by simp, by omega, hC5, hj8, by simp [named], by rw [← hD]; simp⟩ ?_
          rintro e H1 ⟨h2, h4, h5, h8, i, c, nv, h9, hi, hC1, hj, hnl, hDi⟩
          refine wpE_sound _ ?_
          obtain ⟨s1, s2, s3⟩ := res_atR (H := H) (G := H1) (by rw [← hHb]; exact hC1.keeps)
          by_cases hil : i < form.length
          · have hil' : (i : Int) < (form.length : Int) := by omega
            have hw1 : IntKind.i64.wrap ((i : Int) + 1) = (i : Int) + 1 := i64_ok _ (by omega) (by omega)
            have ht1 : ((i : Int) + 1).toNat = i + 1 := by omega
            have hge1 : (0 : Int) ≤ (i : Int) + 1 := by omega
            obtain ⟨b, hb⟩ : ∃ b, form[i]? = some b := ⟨_, List.getElem?_eq_getElem hil⟩
            have hb' : ∀ h, form[i]'h = b := fun h => by rw [List.getElem?_eq_getElem h] at hb; exact Option.some.inj hb
            obtain ⟨w, hw⟩ : ∃ w, ws[i]? = some w := ⟨_, List.getElem?_eq_getElem (by omega)⟩
            have hget : (strV (nm :: ws))[i + 1]? = some (.str w) := by simp [strV, hw]
            have hdf : form.drop i = b :: form.drop (i + 1) := by
              obtain ⟨h, e⟩ := List.getElem?_eq_some_iff.1 hb
              rw [List.drop_eq_getElem_cons h, e]
            have hdw : ws.drop i = w :: ws.drop (i + 1) := by
              obtain ⟨h, e⟩ := List.getElem?_eq_some_iff.1 hw
              rw [List.drop_eq_getElem_cons h, e]
            rw [hdf, hdw] at hDi
            have hstep : D = match stepF b w c with
                | some d => stepsF (form.drop (i + 1)) (ws.drop (i + 1)) d
                | none => none := hDi
            have hcell := hC1.cell
            simp only [cellsC] at hcell
            have hwlen : w.length ≤ 2000 := by
              have := wW_len _ _ w (by rw [hws]; exact List.mem_cons_of_mem _ (List.mem_of_getElem? hw))
              omega
            rcases hfl b (List.mem_of_getElem? hb) with rfl | rfl | rfl | rfl
            · simp [h2, h4, h5, h8, h9, hil, hil', hb', hw1, ht1, hge1, hj, hget]
              refine (rnumber w (by omega) 0 63 _).mono ?_
              rintro v H6 ⟨rfl, hv⟩
              obtain ⟨z, ok, rfl, hst⟩ := num_step108 (c := c) hv
              obtain ⟨G, hG, hwr, hC6, hW6⟩ := hC1.push (R := R) z (by omega)
              simp only [cellsC] at hwr
              obtain ⟨s1, s2, s3⟩ := res_atR (H := H) (by rw [← hHb]; exact hC6.keeps)
              obtain ⟨s4, s5⟩ := s3 zeros6 rfl rfl
              simp only [zeros6, cellsC] at s1 s2 s4 s5
              have s7 := s2
              simp at s7
              have hj6 := hW6 _ _ hj
              simp only [cellsC] at hj6
              simp only [cellsC] at hC6
              rw [hst] at hstep
              cases ok with
              | true =>
                simp [h2, h4, h5, h8, h9, hcell, fillA, splice, zerosEv, AV.oneCell, hG, hwr, hw1]
                refine ⟨⟨i + 1, by omega, by omega, _, ⟨_, hC6⟩, hj6, by simp; omega, hstep⟩, by omega⟩
              | false =>
                have hstep' : D = none := hstep
                simp [h2, h4, h5, h8, h9, hcell, fillA, splice, zerosEv, AV.oneCell, hG, hwr, fill60, s4, s1, s2, s7]
                exact ⟨s5, by rw [hP, hstep']; rfl⟩
            · simp [h2, h4, h5, h8, h9, hil, hil', hb', hw1, ht1, hge1, hj, hget]
              refine (rnumber w (by omega) (-9999) 9999 _).mono ?_
              rintro v H6 ⟨rfl, hv⟩
              obtain ⟨z, ok, rfl, hst⟩ := num_step110 (c := c) hv
              obtain ⟨G, hG, hwr, hC6, hW6⟩ := hC1.push (R := R) z (by omega)
              simp only [cellsC] at hwr
              obtain ⟨s1, s2, s3⟩ := res_atR (H := H) (by rw [← hHb]; exact hC6.keeps)
              obtain ⟨s4, s5⟩ := s3 zeros6 rfl rfl
              simp only [zeros6, cellsC] at s1 s2 s4 s5
              have s7 := s2
              simp at s7
              have hj6 := hW6 _ _ hj
              simp only [cellsC] at hj6
              simp only [cellsC] at hC6
              rw [hst] at hstep
              cases ok with
              | true =>
                simp [h2, h4, h5, h8, h9, hcell, fillA, splice, zerosEv, AV.oneCell, hG, hwr, hw1]
                refine ⟨⟨i + 1, by omega, by omega, _, ⟨_, hC6⟩, hj6, by simp; omega, hstep⟩, by omega⟩
              | false =>
                have hstep' : D = none := hstep
                simp [h2, h4, h5, h8, h9, hcell, fillA, splice, zerosEv, AV.oneCell, hG, hwr, fill60, s4, s1, s2, s7]
                exact ⟨s5, by rw [hP, hstep']; rfl⟩
            · simp [h2, h4, h5, h8, h9, hil, hil', hb', hw1, ht1, hge1, hj, hget]
              refine (rpane w (by omega) _).mono ?_
              rintro v H6 ⟨⟨q, ok, rfl, hpq⟩, hk6⟩
              have hC6 := (hC1.keep hk6).app [.cells [.int .i64 q.1, .int .i64 q.2.1, .int .i64 q.2.2] 25]
              have hj6 : (H6 ++ [AO.cells [.int .i64 q.1, .int .i64 q.2.1, .int .i64 q.2.2] 25])[j8]? = some (.row (strV (nm :: ws)) 9 1) := WI.app H6 _ _ _ (WI.keep hk6 _ _ hj)
              have hwl6 := writeN_last0 H6 (old := [.int .i64 0, .int .i64 0, .int .i64 0]) (new := [.int .i64 q.1, .int .i64 q.2.1, .int .i64 q.2.2]) 25 rfl rfl
              have hwr := writeN_at hC6.cell (off := 2) (vs := [.int .i64 q.1, .int .i64 q.2.1, .int .i64 q.2.2]) (by simp [cellsC]) rfl
              have hset : splice (cellsC c nv) 2 [.int .i64 q.1, .int .i64 q.2.1, .int .i64 q.2.2] = cellsC { c with pane := q } nv := rfl
              rw [hset] at hwr
              have hC7 := hC6.put (d := { c with pane := q }) rfl
              have hj7 := WI.set hC6.cell (.cells (cellsC { c with pane := q } nv) 31) _ _ hj6
              obtain ⟨s1, s2, s3⟩ := res_atR (H := H) (by rw [← hHb]; exact hC7.keeps)
              obtain ⟨s4, s5⟩ := s3 zeros6 rfl rfl
              have hstq : stepF 112 w c = if ok then some { c with pane := q } else none := by
                rw [step_pane, hpq]
                cases ok <;> rfl
              rw [hstq] at hstep
              simp only [cellsC] at hwr hj7
              simp only [zeros6, cellsC] at s1 s2 s4 s5
              have s7 := s2
              simp at s7
              cases ok with
              | true =>
                simp only [cellsC] at hC7
                simp [h2, h4, h5, h8, h9, AV.oneCell, hwl6, hwr, hw1]
                refine ⟨⟨i + 1, by omega, by omega, _, ⟨_, hC7⟩, hj7, by simp; omega, hstep⟩, by omega⟩
              | false =>
                have hstep' : D = none := hstep
                simp [h2, h4, h5, h8, h9, AV.oneCell, hwl6, hwr, fill60, s4, s1, s2, s7]
                exact ⟨s5, by rw [hP, hstep']; rfl⟩
            · have hwr := writeN_cell hC1.cell (i := 5) (by simp [cellsC]) (.str w) rfl
              have hset : (cellsC c nv).set 5 (.str w) = cellsC { c with text := w } nv := rfl
              rw [hset] at hwr
              have hC7 := hC1.put (d := { c with text := w }) rfl
              have hj7 := WI.set hC1.cell (.cells (cellsC { c with text := w } nv) 31) _ _ hj
              obtain ⟨s1, s2, s3⟩ := res_atR (H := H) (by rw [← hHb]; exact hC7.keeps)
              obtain ⟨s4, s5⟩ := s3 zeros6 rfl rfl
              rw [step_text] at hstep
              simp only [cellsC] at hwr hj7
              simp only [zeros6, cellsC] at s1 s2 s4 s5
              have s7 := s2
              simp at s7
              simp [h2, h4, h5, h8, h9, hil, hil', hb', hw1, ht1, hge1, hj, hget, hwr]
              refine (rfine w (by omega) _).mono ?_
              rintro v H6 ⟨rfl, rfl⟩
              cases hfw : fineF w with
              | true =>
                rw [hfw] at hstep
                simp only [cellsC] at hC7
                simp [h2, h4, h5, h8, h9, hw1]
                refine ⟨⟨i + 1, by omega, by omega, _, ⟨_, hC7⟩, hj7, by simp; omega, hstep⟩, by omega⟩
              | false =>
                rw [hfw] at hstep
                have hstep' : D = none := hstep
                simp [h2, h4, h5, h8, h9, fill60, s4, s1, s2, s7]
                exact ⟨s5, by rw [hP, hstep']; rfl⟩
          · obtain rfl : i = form.length := by omega
            have hcc := hC1.cell
            obtain ⟨s4, s5⟩ := s3 (cellsC c nv) rfl (one_cells (one_row hC1.row))
            simp only [zeros6] at s1
            simp only [cellsC] at hcc s4 s5
            rw [List.drop_length, show ws.drop form.length = [] by rw [← hlen, List.drop_length]] at hDi
            have hDs : D = some c := hDi
            simp [h2, h4, h5, h8, h9, hcc, s4, s1, s2]
            refine ⟨s5, ?_⟩
            rw [hP, hDs]
            refine ⟨nv, rfl, hC1.row.frame fun j hj => ?_, fun j o l cp e => by have := (hC1.apart j o l cp e).1; omega⟩
            rw [List.getElem?_set, if_neg]
            have := (hC1.apart j _ _ _ hj).1
            omega
        · have hlen' : ¬ ((ws.length : Int) + 1 = (form.length : Int) + 1) := by omega
          have hlen2 : ¬ (ws.length : Int) = (form.length : Int) := by omega
          rw [steps_len form ws _ hlen] at hP
          simp [h2, h4, h5, hwf, hlen, hlen', hlen2, fill60, q4, q1, q2]
          exact ⟨q5, by rw [hP]; rfl⟩
end Go.Proofs.YthcpfmibcoeleaaDoor.Cm
