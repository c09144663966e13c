/- The walk of a tree that is laid. -/
import Derived.Test.YtbcfhiohdamcjaaGeLayS
namespace Go.Proofs.Ytbcfhiohdamcjaa.Ge
open Go Go.RowKit Am Tr
set_option maxRecDepth 100000
set_option maxHeartbeats 4000000
set_option linter.unusedSimpArgs false
set_option linter.unusedVariables false
attribute [-simp] Am.binEv Am.intBin Am.read1 Am.readN
attribute [local simp] binEv_lss binEv_leq binEv_gtr binEv_geq binEv_eql binEv_neq binEv_add binEv_sub binEv_mul read1_ro read1_mu
variable {R : Ro}
open PT
theorem readN_mu (H : AH) (n i off : Nat) : readN R H n (.mu i) off = match (H[i]?).bind AO.content with
    | some c => if off + n ≤ c.length then some ((c.drop off).take n) else none
    | none => none := rfl
theorem nodeV_at {N : List ND} {i : Nat} {x : ND} (h : N[i]? = some x) : nodeV N (i : Int) = .tuple [.agg x.cells, .bool true] := by
  unfold nodeV; rw [if_neg (by omega)]; simp [h]
def _root_.Am.AC.fst : AC → AC | .seq a _ => a | x => x
def _root_.Am.AC.snd : AC → AC | .seq _ b => b | x => x
def c0 : AC := Fns.a18.body.fst
def c1 : AC := Fns.a18.body.snd.fst
def c2 : AC := Fns.a18.body.snd.snd.fst
def c3 : AC := Fns.a18.body.snd.snd.snd.fst
def c4 : AC := Fns.a18.body.snd.snd.snd.snd.fst
def c5 : AC := Fns.a18.body.snd.snd.snd.snd.snd.fst
def c6 : AC := Fns.a18.body.snd.snd.snd.snd.snd.snd
theorem bodyL : Fns.a18.body = .seq c0 (.seq c1 (.seq c2 (.seq c3 (.seq c4 (.seq c5 c6))))) := rfl
/-- Both children, laid. -/
theorem lay_two {nt : Nat} {e : Env} {F : AH} {L t j ni ai bi : Nat} {cp : Cap} {N : List ND} {PL PA' PB : List (PA × RE)} {BL BA BB : List RE} {s f g sh a b c : Int} {A B : RE}
    (h0 : e 0 = .ptr (.mu L) 0) (h6 : e 6 = .ptr (.mu ni) 0) (h8 : e 8 = .ptr (.mu ai) 0) (h10 : e 10 = .ptr (.mu bi) 0) (S : LS F L t j cp N PL BL)
    (fn : F[ni]? = some (.cells [.int .i64 s, .int .i64 f, .int .i64 g, .int .i64 sh, .int .i64 a, .int .i64 b, .int .i64 c] 55)) (fa : F[ai]? = some (.cells A.cells 29)) (fb : F[bi]? = some (.cells B.cells 29))
    (ka : ∀ {G : AH}, LS G L t j cp N PL BL → ACalls Try.prog R 18 [.ptr (.mu L) 0, .int .i64 f, A.av] G fun v G' => LS G' L t j cp N (PL ++ PA') (BL ++ BA) ∧ KL L G G')
    (kb : ∀ {G : AH}, LS G L t j cp N (PL ++ PA') (BL ++ BA) → ACalls Try.prog R 18 [.ptr (.mu L) 0, .int .i64 g, B.av] G fun v G' => LS G' L t j cp N ((PL ++ PA') ++ PB) ((BL ++ BA) ++ BB) ∧ KL L G G') :
    AWp Try.prog R nt c6 (fun ex e' G => ex = .normal ∧ LS G L t j cp N ((PL ++ PA') ++ PB) ((BL ++ BA) ++ BB) ∧ KL L F G) e F := by
  refine wpE_sound _ ?_
  have ka1 := ka S
  simp only [RE.av, RE.cells] at fa fb ka1
  simp [c6, Fns.a18, AC.fst, AC.snd, h0, h6, h8, h10, fn, fa, fb, AO.content, readN_mu]
  refine ka1.mono ?_
  rintro v G ⟨S1, k1⟩
  have fn1 := k1.cell fn (S.hL fn (by decide))
  have fb1 := k1.cell fb (S.hL fb (by decide))
  have kb1 := kb S1
  simp only [RE.av, RE.cells] at kb1
  simp [h0, h6, h8, h10, fn1, fb1, AO.content, readN_mu]
  refine kb1.mono ?_
  rintro v G2 ⟨S2, k2⟩
  simp
  simp only [List.append_assoc] at S2
  exact ⟨S2, k1.trans k2⟩
/-- The border, and the second part of what is too small. -/
theorem lay_own {nt : Nat} {e : Env} {F : AH} {L t j zi li bi : Nat} {cp : Cap} {N : List ND} {PL : List (PA × RE)} {BL : List RE} {s sh : Int} {z : RE}
    (h0 : e 0 = .ptr (.mu L) 0) (h5 : e 5 = .ptr (.mu zi) 0) (h9 : e 9 = .ptr (.mu li) 0) (h10 : e 10 = .ptr (.mu bi) 0) (h11 : e 11 = .bool (parts1 s z)) (S : LS F L t j cp N PL BL) (hB : BL.length ≤ 1000)
    (fz : F[zi]? = some (.cells z.cells 29)) (fl : F[li]? = some (.cells (partsL s sh z).cells 29)) (fb : F[bi]? = some (.cells (partsB s sh z).cells 29)) {H : AH} (k : KL L H F) (hb : H.length ≤ bi) :
    AWp Try.prog R nt c4 (fun ex e' G => ex = .normal ∧ e' 0 = .ptr (.mu L) 0 ∧ e' 5 = .ptr (.mu zi) 0 ∧ e' 6 = e 6 ∧ e' 8 = e 8 ∧ e' 10 = .ptr (.mu bi) 0 ∧ LS G L t j cp N PL (BL ++ ownL z s sh) ∧ KL L H G ∧ (∀ (m : Nat) (c : List AV) (ty : TypeId), F[m]? = some (.cells c ty) → m ≠ bi → ty ≠ 50 → G[m]? = some (.cells c ty)) ∧ G[bi]? = some (.cells (bigB z s sh).cells 29)) e F := by
  refine wpE_sound _ ?_
  have em := fun H => empty_ok (R := R) z H
  simp only [RE.av, RE.cells] at em fz fl fb
  simp [c4, Fns.a18, AC.fst, AC.snd, h0, h5, fz, AO.content, readN_mu]
  refine (em _).mono ?_
  rintro v G ⟨rfl, rfl⟩
  by_cases hE : (z.empty || parts1 s z) = true
  · have hlt := (List.getElem?_eq_some_iff.1 fb).1
    have hfin : LS (G.set bi (.cells [.int .i64 z.x, .int .i64 z.y, .int .i64 0, .int .i64 0] 29)) L t j cp N PL (BL ++ ownL z s sh) ∧ KL L H (G.set bi (.cells [.int .i64 z.x, .int .i64 z.y, .int .i64 0, .int .i64 0] 29)) ∧ (∀ (m : Nat) (c : List AV) (ty : TypeId), G[m]? = some (.cells c ty) → m ≠ bi → ty ≠ 50 → (G.set bi (.cells [.int .i64 z.x, .int .i64 z.y, .int .i64 0, .int .i64 0] 29))[m]? = some (.cells c ty)) ∧ (G.set bi (.cells [.int .i64 z.x, .int .i64 z.y, .int .i64 0, .int .i64 0] 29))[bi]? = some (.cells (bigB z s sh).cells 29) := by
      refine ⟨?_, k.set hb, fun m c ty hm hn _ => by rw [List.getElem?_set_ne (Ne.symm hn)]; exact hm, ?_⟩
      · have : ownL z s sh = [] := by unfold ownL; rw [if_pos hE]
        rw [this, List.append_nil]
        exact S.set fb (by decide) (by decide) (by decide)
      · rw [List.getElem?_set_self hlt]
        have : bigB z s sh = z.bare := by unfold bigB; rw [if_pos hE]
        rw [this]; rfl
    cases he : z.empty with
    | true =>
      simp [he, h0, h5, h9, h10, h11, fz, fb, fillA, AO.content, AO.withContent, writeN, splice, readN_mu]
      exact hfin
    | false =>
      have h1 : parts1 s z = true := by simpa [he] using hE
      simp [he, h1, h0, h5, h9, h10, h11, fz, fb, fillA, AO.content, AO.withContent, writeN, splice, readN_mu]
      exact hfin
  · have he : z.empty = false := by cases h : z.empty <;> simp_all
    have h1 : parts1 s z = false := by cases h : parts1 s z <;> simp_all
    simp [he, h1, h11]
    obtain ⟨pv, bv, g2, g3, g4⟩ := S.cell
    have g4' : Rw 29 4 (G ++ [AO.cells (partsL s sh z).cells 29]) bv (rcV BL) BL.length := g4.keep fun r hr => get_app hr
    have g3' : Rw 36 7 (G ++ [AO.cells (partsL s sh z).cells 29]) pv (plV PL) PL.length := g3.keep fun r hr => get_app hr
    obtain ⟨v', G', happ, hrw, hl, hk⟩ := g4'.app (R := R) (by' := 32) (jv := G.length) (V := (partsL s sh z).cells) (tV := 29) (cv := .known 1) (by simp) rfl rfl (by omega) (by omega) (by omega)
    obtain ⟨r', rfl⟩ : ∃ r', v' = .slice (.mu r') 0 (BL.length + 1) (.opn 0) := by
      rcases hrw.2 with ⟨h, _⟩ | ⟨_, r, h, _⟩
      · omega
      · exact ⟨r, h⟩
    have g2' : (G ++ [AO.cells (partsL s sh z).cells 29])[L]? = _ := get_app g2
    obtain ⟨S', k'⟩ := LS.border (S.tre.app _) g2' g3' rfl hrw hl hk
    have kA : KL L G (G'.set L (.cells [.ptr (.mu t) 0, pv, .slice (.mu r') 0 (BL.length + 1) (.opn 0)] 50)) := (KL.app L G _).trans k'
    have gL := hk L _ g2' (by simp)
    have hown : ownL z s sh = [partsL s sh z] := by unfold ownL; rw [if_neg hE]
    have hbig : bigB z s sh = partsB s sh z := by unfold bigB; rw [if_neg hE]
    simp only [RE.cells] at happ g2'
    refine AWp.sched [0, 1, 2, 3, 4, 5, 6, 7, 8, 9, 10] Fns.mixed (by decide +kernel) ?_
    simp [h0, h9, g2, fl, AO.content, AO.withContent, writeN, splice, readN_mu, fillA, zerosEv]
    refine ⟨by simp [recheck, g2', AO.content], ?_⟩
    simp [happ, gL, AO.content, AO.withContent, writeN, splice]
    refine ⟨h0, h5, h10, ?_, k.trans kA, fun m c ty hm hn hy => kA.cell hm (S.hL hm hy), ?_⟩
    · rw [hown]; exact S'
    · rw [hbig]; exact kA.cell fb (S.hL fb (by decide))
/-- The first part of what has no columns. -/
theorem lay_bare {nt : Nat} {e : Env} {F : AH} {L t j zi ai bi ni : Nat} {cp : Cap} {N : List ND} {PL : List (PA × RE)} {BL : List RE} {s sh : Int} {z : RE}
    (h0 : e 0 = .ptr (.mu L) 0) (h5 : e 5 = .ptr (.mu zi) 0) (h6 : e 6 = .ptr (.mu ni) 0) (h8 : e 8 = .ptr (.mu ai) 0) (h10 : e 10 = .ptr (.mu bi) 0) (S : LS F L t j cp N PL BL)
    (fz : F[zi]? = some (.cells z.cells 29)) (fa : F[ai]? = some (.cells (partsA s sh z).cells 29)) (fb : F[bi]? = some (.cells (bigB z s sh).cells 29)) (hab : ai ≠ bi) {H : AH} (k : KL L H F) (hb : H.length ≤ ai) :
    AWp Try.prog R nt c5 (fun ex e' G => ex = .normal ∧ e' 0 = .ptr (.mu L) 0 ∧ e' 6 = .ptr (.mu ni) 0 ∧ e' 8 = .ptr (.mu ai) 0 ∧ e' 10 = .ptr (.mu bi) 0 ∧ LS G L t j cp N PL BL ∧ KL L H G ∧ (∀ (m : Nat) (c : List AV) (ty : TypeId), F[m]? = some (.cells c ty) → m ≠ ai → G[m]? = some (.cells c ty)) ∧ G[ai]? = some (.cells (bigA z s sh).cells 29)) e F := by
  refine wpE_sound _ ?_
  have em := fun H => empty_ok (R := R) z H
  simp only [RE.av, RE.cells] at em fz fa fb
  simp [c5, Fns.a18, AC.fst, AC.snd, h0, h5, fz, AO.content, readN_mu]
  refine (em _).mono ?_
  rintro v G ⟨rfl, rfl⟩
  cases he : z.empty with
  | true =>
    have hlt := (List.getElem?_eq_some_iff.1 fa).1
    have hA : bigA z s sh = z.bare := by unfold bigA; rw [if_pos he]
    have hB : bigB z s sh = z.bare := by unfold bigB; rw [if_pos (by simp [he])]
    rw [hB] at fb
    simp only [RE.bare] at fb
    simp [he, h0, h5, h6, h8, h10, fa, fb, fillA, AO.content, AO.withContent, writeN, splice, readN_mu]
    refine ⟨S.set fa (by decide) (by decide) (by decide), k.set hb, fun m c ty hm hn => by rw [List.getElem?_set_ne (Ne.symm hn)]; exact hm, ?_⟩
    rw [List.getElem?_set_self hlt, hA]; rfl
  | false =>
    have hA : bigA z s sh = partsA s sh z := by unfold bigA; rw [if_neg (by simp [he])]
    simp [he, h0, h5, h6, h8, h10]
    refine ⟨S, k, fun m c ty hm hn => hm, ?_⟩
    rw [hA]; exact fa
def cD : AC := match c2 with
  | .seq _ (.cond _ (.seq _ (.seq d _)) _) => d
  | x => x
/-- A leaf's place. -/
theorem lay_leaf {nt : Nat} {e : Env} {F : AH} {L t j zi ni : Nat} {cp : Cap} {N : List ND} {PL : List (PA × RE)} {BL : List RE} {p : PA} {z : RE}
    (h0 : e 0 = .ptr (.mu L) 0) (h5 : e 5 = .ptr (.mu zi) 0) (h6 : e 6 = .ptr (.mu ni) 0) (S : LS F L t j cp N PL BL) (hB : PL.length ≤ 1000)
    (fz : F[zi]? = some (.cells z.cells 29)) (fn : F[ni]? = some (.cells [.int .i64 0, .int .i64 0, .int .i64 0, .int .i64 0, .int .i64 p.a, .int .i64 p.b, .int .i64 p.c] 55)) {H : AH} (k : KL L H F) :
    AWp Try.prog R nt cD (fun ex e' G => ex = .normal ∧ LS G L t j cp N (PL ++ [(p, z)]) BL ∧ KL L H G) e F := by
  obtain ⟨pv, bv, g2, g3, g4⟩ := S.cell
  obtain ⟨V, hV⟩ : ∃ V : List AV, V = p.cells ++ z.cells := ⟨_, rfl⟩
  have hVl : V.length = 7 := by rw [hV]; rfl
  have hVo : V.all AV.oneCell = true := by rw [hV]; rfl
  have g3' : Rw 36 7 (F ++ [AO.cells V 36]) pv (plV PL) PL.length := g3.keep fun r hr => get_app hr
  have g4' : Rw 29 4 (F ++ [AO.cells V 36]) bv (rcV BL) BL.length := g4.keep fun r hr => get_app hr
  obtain ⟨v', G', happ, hrw, hl, hk⟩ := g3'.app (R := R) (by' := 56) (jv := F.length) (V := V) (tV := 36) (cv := .known 1) (by simp) hVl hVo (by omega) (by omega) (by omega)
  obtain ⟨r', rfl⟩ : ∃ r', v' = .slice (.mu r') 0 (PL.length + 1) (.opn 0) := by
    rcases hrw.2 with ⟨h, _⟩ | ⟨_, r, h, _⟩
    · omega
    · exact ⟨r, h⟩
  have g2' : (F ++ [AO.cells V 36])[L]? = _ := get_app g2
  obtain ⟨S', k'⟩ := LS.place (S.tre.app _) g2' g4' (x := (p, z)) hV hrw hl hk
  have kA : KL L F (G'.set L (.cells [.ptr (.mu t) 0, .slice (.mu r') 0 (PL.length + 1) (.opn 0), bv] 50)) := (KL.app L F _).trans k'
  have gL := hk L _ g2' (by simp)
  rw [hV] at happ g2'
  simp only [RE.cells, PA.cells, List.cons_append, List.nil_append] at happ g2' fz
  refine AWp.sched [0, 1, 2, 3, 4, 5, 6, 7, 8, 9, 10, 11, 12, 13] Fns.mixed (by decide +kernel) ?_
  simp [h0, h5, h6, g2, fz, fn, AO.content, AO.withContent, writeN, splice, readN_mu, fillA, zerosEv]
  refine ⟨by simp [recheck, g2', AO.content], ?_⟩
  simp [happ, gL, AO.content, AO.withContent, writeN, splice]
  exact ⟨S', k.trans kA⟩
theorem lay_ok : ∀ (P : PT) {N : List ND} {o : Nat} {i : Int} {z : RE} {G : AH} {L t j : Nat} {cp : Cap} {PL : List (PA × RE)} {BL : List RE}, P.sides → Sub N o P → i = (o : Int) → ZOk z → PL.length + P.panes.length ≤ 1000 → BL.length + P.panes.length ≤ 1000 → LS G L t j cp N PL BL →
    ACalls Try.prog R 18 [.ptr (.mu L) 0, .int .i64 i, z.av] G fun v G' => LS G' L t j cp N (PL ++ layP P z) (BL ++ layB P z) ∧ KL L G G'
  | P, N, o, i, z, G, L, t, j, cp, PL, BL, hs, hN, hi, hz, hpl, hbl, S => by
    subst hi
    obtain ⟨x, hx⟩ : ∃ x, N[o]? = some x := by
      cases P with
      | leaf p => exact ⟨_, hN.leaf⟩
      | split s sh a b => exact ⟨_, hN.split.1⟩
    refine ACalls.of_body Fns.ok18 (by simp [Fns.a18]) ?_
    rw [bodyL]
    refine AWp.seq (wpE_sound _ ?_)
    simp [c0, Fns.a18, AC.fst, AC.snd, RE.av, RE.cells]
    obtain ⟨F, hF⟩ : ∃ F, F = G ++ [AO.cells [AV.int .i64 z.x, .int .i64 z.y, .int .i64 z.w, .int .i64 z.h] 29] := ⟨_, rfl⟩
    have S1 : LS F L t j cp N PL BL := by rw [hF]; exact S.app _
    have k1 : KL L G F := by rw [hF]; exact KL.app _ _ _
    have fz : F[G.length]? = some (.cells z.cells 29) := by rw [hF]; simp [RE.cells]
    have fl : F.length = G.length + 1 := by rw [hF]; simp
    rw [← hF]
    clear hF
    obtain ⟨pv, bv, g2, g3, g4⟩ := S1.cell
    have hnd := node_ok (R := R) S1.tre.tre (o : Int)
    rw [nodeV_at hx] at hnd
    simp only [ND.cells] at hnd
    refine AWp.seq (wpE_sound _ ?_)
    simp [c1, Fns.a18, AC.fst, AC.snd, g2, AO.content]
    refine hnd.mono ?_
    rintro v F' ⟨rfl, rfl⟩
    simp [AO.content, AO.withContent, writeN, splice]
    obtain ⟨F, hF⟩ : ∃ F, F = F' ++ [AO.cells [AV.int .i64 x.side, .int .i64 x.f, .int .i64 x.s, .int .i64 x.sh, .int .i64 x.a, .int .i64 x.b, .int .i64 x.c] 55] := ⟨_, rfl⟩
    have S2 : LS F L t j cp N PL BL := by rw [hF]; exact S1.app _
    have k2 : KL L G F := by rw [hF]; exact k1.trans (KL.app _ _ _)
    have fz2 : F[G.length]? = some (.cells z.cells 29) := by rw [hF]; exact get_app fz
    have fn : F[F'.length]? = some (.cells x.cells 55) := by rw [hF]; simp [ND.cells]
    have fl2 : F.length = G.length + 2 := by rw [hF]; simp [fl]
    rw [← hF]
    clear hF
    rw [fl] at fn
    rw [fl]
    clear fz g2 g3 g4 k1 S1 hnd fl
    have em := fun H => empty_ok (R := R) z H
    simp only [RE.av, RE.cells] at em fz2
    cases P with
    | leaf p =>
      obtain rfl : x = leafN p := by have := hN.leaf; rw [hx] at this; exact Option.some.inj this
      simp only [ND.cells, leafN] at fn
      refine AWp.seq (wpE_sound _ ?_)
      simp [c2, Fns.a18, AC.fst, AC.snd, fn, fz2, AO.content, readN_mu, eqEv]
      refine (em _).mono ?_
      rintro v F2 ⟨rfl, rfl⟩
      cases he : z.empty with
      | true =>
        have hlt := (List.getElem?_eq_some_iff.1 fz2).1
        have hset : ∀ o, (F2.set G.length o)[G.length]? = some o := fun o => List.getElem?_set_self hlt
        simp [he, fz2, hset, AO.content, AO.withContent, writeN, splice]
        have S3 : LS (F2.set G.length (.cells z.bare.cells 29)) L t j cp N PL BL := S2.set fz2 (by decide) (by decide) (by decide)
        have k3 : KL L G (F2.set G.length (.cells z.bare.cells 29)) := k2.set (Nat.le_refl _)
        have fn3 : (F2.set G.length (.cells z.bare.cells 29))[G.length + 1]? = _ := (List.getElem?_set_ne (by omega)).trans fn
        refine AWp.mono (lay_leaf (p := p) (z := z.bare) (zi := G.length) (ni := G.length + 1) (H := G) (by simp) (by simp) (by simp) S3 (by omega) (hset _) fn3 k3) ?_
        rintro ex e2 G2 ⟨rfl, S4, k4⟩
        simp [layP, layB, he]
        exact ⟨S4, k4⟩
      | false =>
        simp [he]
        refine AWp.mono (lay_leaf (p := p) (z := z) (zi := G.length) (ni := G.length + 1) (H := G) (by simp) (by simp) (by simp) S2 (by omega) fz2 fn k2) ?_
        rintro ex e2 G2 ⟨rfl, S4, k4⟩
        simp [layP, layB, he]
        exact ⟨S4, k4⟩
    | split s sh a b =>
      obtain ⟨n1, n2, n3⟩ := hN.split
      obtain rfl : x = ⟨s, (o : Int) + 1, (o : Int) + 1 + a.size, sh, 0, 0, 0⟩ := by rw [hx] at n1; exact Option.some.inj n1
      obtain ⟨s12, sh1, sh2, sa, sb⟩ := hs
      have hs0 : ¬ s = 0 := by omega
      have hz' := hz
      obtain ⟨z1, z2, z3, z4, z5, z6, z7, z8⟩ := hz'
      have hpo := parts_ok (R := R) (x := ⟨s, (o : Int) + 1, (o : Int) + 1 + a.size, sh, 0, 0, 0⟩) (z := z) ⟨⟨by omega, by omega⟩, z1, by omega⟩ ⟨⟨by omega, by omega⟩, z2, by omega⟩ ⟨z3, z5⟩ ⟨z4, z6⟩ sh1 sh2 F
      simp only [ND.cells, RE.av, RE.cells] at hpo fn
      refine AWp.seq (wpE_sound _ ?_)
      simp [c2, Fns.a18, AC.fst, AC.snd, fn, AO.content, eqEv, hs0]
      refine AWp.seq (wpE_sound _ ?_)
      simp [c3, Fns.a18, AC.fst, AC.snd, fn, fz2, AO.content, readN_mu]
      refine hpo.mono ?_
      rintro v F2 ⟨rfl, rfl⟩
      simp [AO.content, AO.withContent, writeN, splice]
      obtain ⟨F, hF⟩ : ∃ F, F = F2 ++ [AO.cells (partsA s sh z).cells 29, AO.cells (partsL s sh z).cells 29, AO.cells (partsB s sh z).cells 29] := ⟨_, rfl⟩
      have S3 : LS F L t j cp N PL BL := by rw [hF]; exact S2.app _
      have k3 : KL L G F := by rw [hF]; exact k2.trans (KL.app _ _ _)
      have fz3 : F[G.length]? = some (.cells z.cells 29) := by rw [hF]; exact get_app fz2
      have fn3 := (show F[G.length + 1]? = F2[G.length + 1]? by rw [hF]; exact List.getElem?_append_left (by omega)).trans fn
      have fa3 : F[F2.length]? = some (.cells (partsA s sh z).cells 29) := by rw [hF]; simp
      have fl3 : F[F2.length + 1]? = some (.cells (partsL s sh z).cells 29) := by rw [hF]; simp
      have fb3 : F[F2.length + 2]? = some (.cells (partsB s sh z).cells 29) := by rw [hF]; simp
      simp only [RE.cells] at hF
      rw [← hF]
      clear hF
      refine AWp.seq (AWp.mono (lay_own (s := s) (sh := sh) (z := z) (zi := G.length) (li := F2.length + 1) (bi := F2.length + 2) (H := G) (by simp) (by simp) (by simp) (by simp) (by simp) S3 (by omega) fz3 fl3 fb3 k3 (by omega)) ?_)
      rintro ex e2 G2 ⟨rfl, q0, q5, q6, q8, q10, S4, k4, f4, fb4⟩
      have fz4 := f4 _ _ _ fz3 (by omega) (by decide)
      have fa4 := f4 _ _ _ fa3 (by omega) (by decide)
      have fn4 := f4 _ _ _ fn3 (by omega) (by decide)
      simp at q6 q8
      refine AWp.seq (AWp.mono (lay_bare (s := s) (sh := sh) (z := z) (zi := G.length) (ai := F2.length) (bi := F2.length + 2) (ni := G.length + 1) (H := G) q0 q5 q6 q8 q10 S4 fz4 fa4 fb4 (by omega) k4 (by omega)) ?_)
      rintro ex e3 G3 ⟨rfl, q0, q6, q8, q10, S5, k5, f5, fa5⟩
      have fb5 := f5 _ _ _ fb4 (by omega)
      have fn5 := f5 _ _ _ fn4 (by omega)
      have hpn : (PT.split s sh a b).panes.length = a.panes.length + b.panes.length := by simp [PT.panes]
      have hol : (ownL z s sh).length ≤ 1 := by unfold ownL; split <;> simp
      have hlb := layB_len a (bigA z s sh)
      have hpb : 0 < b.panes.length := by have := panes_size b; have := size_pos b; omega
      refine AWp.mono (lay_two (PA' := layP a (bigA z s sh)) (PB := layP b (bigB z s sh)) (BA := layB a (bigA z s sh)) (BB := layB b (bigB z s sh)) q0 q6 q8 q10 S5 fn5 fa5 fb5
        (fun {G} S => lay_ok a sa n2 (by omega) (hz.bigA s sh1) (by omega) (by rw [List.length_append]; omega) S)
        (fun {G} S => lay_ok b sb n3 (by omega) (hz.bigB s sh1) (by rw [List.length_append, layP_len]; omega) (by rw [List.length_append, List.length_append]; omega) S)) ?_
      rintro ex e4 G4 ⟨rfl, S6, k6⟩
      simp only [List.append_assoc] at S6
      simp [layP, layB]
      exact ⟨S6, k5.trans k6⟩
end Go.Proofs.Ytbcfhiohdamcjaa.Ge
