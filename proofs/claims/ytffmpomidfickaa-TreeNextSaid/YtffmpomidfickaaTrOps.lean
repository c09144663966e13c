/- A tree's acts: New, Node, Split, Close. -/
import Derived.Test.YtffmpomidfickaaTrMut
import Derived.Test.YtffmpomidfickaaAmInsC
namespace Go.Proofs.Ytffmpomidfickaa.Tr
open Go Go.RowKit Am
set_option maxRecDepth 100000
set_option maxHeartbeats 1000000
set_option linter.unusedSimpArgs false
set_option linter.unusedVariables false
attribute [-simp] Am.binEv Am.intBin Am.read1
attribute [local simp] binEv_lss binEv_leq binEv_gtr binEv_geq binEv_eql binEv_neq binEv_add binEv_sub binEv_mul read1_ro read1_mu
variable {R : Ro}
def leafN (p : PA) : ND := ⟨0, 0, 0, 0, p.a, p.b, p.c⟩
theorem ins_ok : FnOk Try.prog 31 (insF 54 7 56 [.int .i64 0, .int .i64 0, .int .i64 0, .int .i64 0, .int .i64 0, .int .i64 0, .int .i64 0] #[58, 58] #[4] 49) := Fns.ok31
theorem del_ok : FnOk Try.prog 33 (delF 54 7 56 [.int .i64 0, .int .i64 0, .int .i64 0, .int .i64 0, .int .i64 0, .int .i64 0, .int .i64 0]) := Fns.ok33
theorem ndV_app : ∀ (A B : List ND), ndV (A ++ B) = ndV A ++ ndV B
  | [], B => rfl
  | x :: A, B => by simp [ndV, ndV_app A B]
theorem ndV_take : ∀ (N : List ND) (i : Nat), (ndV N).take (i * 7) = ndV (N.take i)
  | [], i => by simp [ndV]
  | x :: N, 0 => by simp [ndV]
  | x :: N, i + 1 => by
    have e : (i + 1) * 7 = x.cells.length + i * 7 := by simp [ND.cells]; omega
    rw [e]; simp only [ndV, List.take_succ_cons, List.take_length_add_append, ndV_take N i]
theorem ndV_drop : ∀ (N : List ND) (i : Nat), (ndV N).drop (i * 7) = ndV (N.drop i)
  | [], i => by simp [ndV]
  | x :: N, 0 => by simp [ndV]
  | x :: N, i + 1 => by
    have e : (i + 1) * 7 = x.cells.length + i * 7 := by simp [ND.cells]; omega
    rw [e]; simp only [ndV, List.drop_succ_cons, List.drop_length_add_append, ndV_drop N i]
theorem new_ok (p : PA) (H : AH) : ACalls Try.prog R 9 [p.av] H fun v G => v = .ptr (.mu (H.length + 2)) 0 ∧ G = H ++ [.cells p.cells 25, .cells (ndV [leafN p]) 54, .cells [.slice (.mu (H.length + 1)) 0 1 (.known 1)] 60] := by
  refine ACalls.of_wpE Fns.ok9 (by simp [Fns.a9]) ?_
  simp [Fns.a9, PA.av, PA.cells, AO.content, readN, fillA, splice, zerosEv, ndV, leafN, ND.cells]
theorem new_tre (p : PA) (H : AH) : TreM (H ++ [.cells p.cells 25, .cells (ndV [leafN p]) 54, .cells [.slice (.mu (H.length + 1)) 0 1 (.known 1)] 60]) (H.length + 2) (H.length + 1) (.known 1) [leafN p] :=
  ⟨by simp, ⟨_, by simp, .inr ⟨rfl, rfl, rfl⟩⟩, by simp, by simp⟩
def zeroN : ND := ⟨0, 0, 0, 0, 0, 0, 0⟩
def nodeV (N : List ND) (i : Int) : AV := if i < 0 then .tuple [.agg zeroN.cells, .bool false] else match N[i.toNat]? with
  | some x => .tuple [.agg x.cells, .bool true]
  | none => .tuple [.agg zeroN.cells, .bool false]
theorem node_ok {H : AH} {t j n : Nat} {cp : Cap} {C : List AV} {N : List ND} (h : Tre H t j n cp C N) (i : Int) : ACalls Try.prog R 24 [.ptr (.mu t) 0, .int .i64 i] H fun v G => G = H ∧ v = nodeV N i := by
  refine ACalls.gc ?_
  refine ACalls.of_wpE Fns.ok24 (by simp [Fns.a24]) ?_
  simp [Fns.a24]
  refine (nodes_ok (get_app h.ht) h.pos).mono ?_
  rintro v G ⟨rfl, rfl⟩
  have hn := h.hn
  by_cases hi : i < 0
  · simp [hi, nodeV, zeroN, ND.cells, AO.content, AO.withContent, writeN, splice, readN, fillA, ren, renL]
  · by_cases hl : (n : Int) ≤ i
    · have hg : N[i.toNat]? = none := List.getElem?_eq_none (by omega)
      simp [hi, hl, hg, nodeV, zeroN, ND.cells, AO.content, AO.withContent, writeN, splice, readN, fillA, ren, renL]
    · obtain ⟨x, hx⟩ : ∃ x, N[i.toNat]? = some x := ⟨_, List.getElem?_eq_getElem (by omega)⟩
      have hil : i.toNat < n := by omega
      obtain ⟨k, rfl⟩ : ∃ k : Nat, i = k := ⟨i.toNat, by omega⟩
      have hrd := ndV_at N k x (by simpa using hx)
      have hfit : k * 7 + 7 ≤ C.length := by
        have := congrArg List.length h.hc
        rw [List.length_take, ndV_len, hn] at this
        simp at hil; omega
      have hrd2 : (C.drop (k * 7)).take 7 = x.cells := by
        rw [← hrd, ← h.hc, List.drop_take, List.take_take]
        congr 1
        simp at hil; omega
      have hr : ∀ X : AH, ((H ++ X)[j]?).bind AO.content = some C := fun X => by
        have hj := h.hj
        cases hg : H[j]? with
        | none => rw [hg] at hj; cases hj
        | some o => rw [get_app hg]; rw [hg] at hj; exact hj
      simp at hx hil
      have hk0 : ¬ (k : Int) < 0 := by omega
      have hil' : (k : Int) < n := by omega
      simp only [ND.cells] at hrd2
      simp [hk0, hl, hil, hil', hx, hr, hfit, hrd2, nodeV, zeroN, ND.cells, AO.content, AO.withContent, writeN, splice, readN, fillA, ren, renL]
theorem ins_tree {H : AH} {t j jv i : Nat} {cp cv : Cap} {M : List ND} (h : TreM H t j cp M) {a b : ND} (hV : H[jv]? = some (.cells (ndV [a, b]) 54)) (hi : i ≤ M.length) (h0 : 0 < i) (h1 : M.length ≤ 990) :
    ACalls Try.prog R 31 [.slice (.mu j) 0 M.length cp, .int .i64 i, .slice (.mu jv) 0 2 cv] H fun v G => ∃ r, v = .slice (.mu r) 0 (M.length + 2) (.opn 0) ∧ H.length ≤ r ∧ G[r]? = some (.row (ndV (M.take i ++ [a, b] ++ M.drop i)) 54 7) ∧ ∀ m, m < H.length → m ≠ j → G[m]? = H[m]? := by
  obtain ⟨o, ho, hc⟩ := h.obj
  have hpos := h.pos
  have hjl := h.jlt
  have hVl : (ndV [a, b]).length = 2 * 7 := by rw [ndV_len]; rfl
  have hcl : (ndV M).length = M.length * 7 := ndV_len M
  by_cases hl : i = M.length
  · subst hl
    rw [List.take_length, List.drop_length, List.append_nil, ndV_app]
    rcases hc with ⟨rfl, rfl⟩ | ⟨rfl, e1, rfl⟩
    · refine (ins_lastE ins_ok ho hcl hpos hV hVl (by omega) (by decide) (by decide) (by omega) (ndV_one _)).mono ?_
      rintro v G ⟨rfl, rfl⟩
      refine ⟨_, rfl, by omega, by rw [List.getElem?_append_right (by simp)]; simp, fun m hm hj => ?_⟩
      rw [List.getElem?_append_left (by simp; omega), List.getElem?_set_ne (Ne.symm hj), List.getElem?_append_left hm]
    · have := ins_knE (R := R) ins_ok ho hcl hpos hV hVl (by omega) (by decide) (by decide) (by omega) (ndV_one _) (n := M.length) (cv := cv)
      rw [show Cap.known 1 = Cap.known M.length by rw [e1]]
      refine this.mono ?_
      rintro v G ⟨rfl, rfl⟩
      refine ⟨_, rfl, by omega, by simp, fun m hm hj => ?_⟩
      rw [List.getElem?_append_left hm]
  · rcases hc with ⟨rfl, rfl⟩ | ⟨rfl, e1, rfl⟩
    · refine (ins_row Fns.mixed ins_ok rfl ho hV hcl hVl (i := i) (by omega) (by omega) (by decide) (by decide) (by omega) rfl (ndV_one _) (ndV_one _)).mono ?_
      rintro v G ⟨rfl, rfl⟩
      refine ⟨_, rfl, by omega, ?_, fun m hm hj => ?_⟩
      · rw [List.getElem?_append_right (by simp), ndV_take, ndV_drop, ← ndV_app, ← ndV_app]; simp
      · rw [List.getElem?_append_left (by simpa using hm), List.getElem?_set_ne (Ne.symm hj)]
    · omega
theorem del_tree {H : AH} {t j i : Nat} {cp : Cap} {M : List ND} (h : TreM H t j cp M) (hi : i < M.length) (h2 : 2 ≤ M.length) :
    ACalls Try.prog R 33 [.slice (.mu j) 0 M.length cp, .int .i64 i, .int .i64 ((i : Int) + 1)] H fun v G => ∃ r, v = .slice (.mu r) 0 (M.length - 1) (.opn 0) ∧ H.length ≤ r ∧ G[r]? = some (.row (ndV (M.take i ++ M.drop (i + 1))) 54 7) ∧ ∀ m, m < H.length → m ≠ j → G[m]? = H[m]? := by
  obtain ⟨o, ho, hc⟩ := h.obj
  have hle := h.le
  rcases hc with ⟨rfl, rfl⟩ | ⟨rfl, e1, rfl⟩
  · refine (del_row Fns.mixed del_ok rfl ho (ndV_len M) hi (by decide) (by decide) (by omega) rfl (ndV_one _)).mono ?_
    rintro v G ⟨rfl, rfl⟩
    refine ⟨_, rfl, by omega, ?_, fun m hm hj => ?_⟩
    · rw [List.getElem?_append_right (by simp), ndV_take, ndV_drop, ← ndV_app]; simp
    · rw [List.getElem?_append_left (by simpa using hm), List.getElem?_set_ne (Ne.symm hj)]
  · omega
/-- What an act leaves of what is not the tree's. -/
def Fr (H G : AH) (t j : Nat) : Prop := ∀ m, m < H.length → m ≠ t → m ≠ j → G[m]? = H[m]?
def ActOut (H : AH) (t j : Nat) (r : Int × List ND) (v : AV) (G : AH) : Prop := v = .int .i64 r.1 ∧ H.length ≤ G.length ∧ Fr H G t j ∧ ∃ j' cp', TreM G t j' cp' r.2 ∧ (j' = j ∨ H.length ≤ j')
def splitL (p q : PA) (side share : Int) (i : Nat) (N : List ND) : List ND :=
  ((N.map (mvN ((i : Int) + 1) 2)).take (i + 1) ++ [leafN p, leafN q] ++ (N.map (mvN ((i : Int) + 1) 2)).drop (i + 1)).set i ⟨side, (i : Int) + 1, (i : Int) + 2, share, 0, 0, 0⟩
def splitN (p q : PA) (side share : Int) (N : List ND) : Int × List ND :=
  if idx (isLeaf p) N < 0 then (4, N)
  else if hasP q N then (5, N)
  else if ¬ (side = 1 ∨ side = 2) ∨ share < 1 ∨ 99 < share then (1, N)
  else if (lv N).length = 16 then (6, N)
  else (0, splitL p q side share (N.findIdx (isLeaf p)) N)
theorem idx_cases (f : ND → Bool) (N : List ND) : (idx f N = -1 ∧ ∀ x ∈ N, f x = false) ∨ (N.findIdx f < N.length ∧ idx f N = (N.findIdx f : Int)) := by
  unfold idx
  split
  · rename_i h; exact .inr ⟨h, rfl⟩
  · rename_i h
    refine .inl ⟨rfl, fun x hx => ?_⟩
    rw [List.findIdx_lt_length] at h
    cases hf : f x with
    | false => rfl
    | true => exact absurd ⟨x, hx, hf⟩ h
theorem split_ok {H : AH} {t j : Nat} {cp : Cap} {N : List ND} (h : TreM H t j cp N) (hb : bnd N) (hN : N.length ≤ 900) (p q : PA) (side share : Int) :
    ACalls Try.prog R 11 [.ptr (.mu t) 0, p.av, q.av, .int .i64 side, .int .i64 share] H (ActOut H t j (splitN p q side share N)) := by
  refine ACalls.of_wpE Fns.ok11 (by simp [Fns.a11]) ?_
  obtain ⟨H1, hH1⟩ : ∃ H1, H1 = H ++ [AO.cells p.cells 25, AO.cells q.cells 25] := ⟨_, rfl⟩
  have hp : H1[H.length]? = some (.cells p.cells 25) := by rw [hH1]; simp
  have hq : H1[H.length + 1]? = some (.cells q.cells 25) := by rw [hH1]; simp
  have hT : TreM H1 t j cp N := by rw [hH1]; exact h.app _
  have hl1 : H1.length = H.length + 2 := by rw [hH1]; simp
  have hk1 : ∀ m, m < H.length → H1[m]? = H[m]? := fun m hm => by rw [hH1]; exact List.getElem?_append_left hm
  have same : ∀ c, splitN p q side share N = (c, N) → ActOut H t j (splitN p q side share N) (.int .i64 c) H1 :=
    fun c hc => by rw [hc]; exact ⟨rfl, by omega, fun m hm _ _ => hk1 m hm, j, cp, hT, .inl rfl⟩
  have hlf := leaf_ok (R := R) hT.tre p
  have hhs := has_ok (R := R) hT.tre q
  have hln := hT.tre.len (R := R)
  simp only [PA.av, PA.cells] at hlf hhs hp hq hH1
  simp [Fns.a11, PA.av, PA.cells]
  rw [← hH1]
  refine hlf.mono ?_
  rintro v G ⟨rfl, rfl⟩
  simp [eqEv]
  rcases idx_cases (isLeaf p) N with ⟨e, hno⟩ | ⟨hlt, e⟩
  · simp [e]
    exact same 4 (by unfold splitN; rw [if_pos (by omega)])
  have e0 : ¬ ((N.findIdx (isLeaf p) : Int) < 0) := by omega
  simp [e, e0, hq, AO.content, readN]
  refine hhs.mono ?_
  rintro v G ⟨rfl, rfl⟩
  have s0 : splitN p q side share N = if hasP q N then (5, N) else if ¬ (side = 1 ∨ side = 2) ∨ share < 1 ∨ 99 < share then (1, N) else if (lv N).length = 16 then (6, N) else (0, splitL p q side share (N.findIdx (isLeaf p)) N) := by
    unfold splitN; rw [if_neg (by omega)]
  cases hh : hasP q N with
  | true =>
    rw [hh, if_pos rfl] at s0
    simp
    exact same 5 s0
  | false =>
  rw [hh, if_neg (by decide)] at s0
  by_cases hc : ¬ (side = 1 ∨ side = 2) ∨ share < 1 ∨ 99 < share
  · rw [if_pos hc] at s0
    have r0 := same 1 s0
    by_cases c1 : side = 1
    · by_cases c3 : share < 1
      · simp [c1, c3]; rw [c1] at r0; exact r0
      · have c4 : 99 < share := by omega
        simp [c1, c3, c4]; rw [c1] at r0; exact r0
    · by_cases c2 : side = 2
      · by_cases c3 : share < 1
        · simp [c2, c3]; rw [c2] at r0; exact r0
        · have c4 : 99 < share := by omega
          simp [c2, c3, c4]; rw [c2] at r0; exact r0
      · simp [c1, c2]; exact r0
  rw [if_neg hc] at s0
  have c0 : side = 1 ∨ side = 2 := by omega
  have c3 : ¬ share < 1 := by omega
  have c4 : ¬ 99 < share := by omega
  obtain ⟨i, hi⟩ : ∃ i, i = N.findIdx (isLeaf p) := ⟨_, rfl⟩
  rw [← hi] at s0 hlt ⊢
  have w1 : IntKind.i64.wrap ((i : Int) + 1) = (i : Int) + 1 := by rw [wrap_nat] <;> omega
  have w2 : IntKind.i64.wrap ((i : Int) + 2) = (i : Int) + 2 := by rw [wrap_nat] <;> omega
  have hmv := moves_ok (R := R) hT hb ((i : Int) + 1) 2 (by omega) (by omega)
  have hside : side = 1 ∨ side = 2 := c0
  by_cases c5 : (lv N).length = 16
  · rw [if_pos c5] at s0
    have r0 := same 6 s0
    rcases c0 with rfl | rfl
    all_goals
      simp [c3, c4]
      refine hln.mono ?_
      rintro v G1 ⟨rfl, rfl⟩
      simp [c5]
      exact r0
  rw [if_neg c5] at s0
  have c6 : ¬ ((lv N).length : Int) = 16 := by omega
  rw [s0]
  obtain ⟨sd, hsd⟩ : ∃ sd, sd = side := ⟨_, rfl⟩
  rcases c0 with rfl | rfl
  all_goals
    simp [c3, c4]
    refine hln.mono ?_
    rintro v G1 ⟨rfl, rfl⟩
    simp [c5, c6, w1]
    refine hmv.mono ?_
    rintro v G1 ⟨rfl, hT1, hk2, hl2⟩
    simp
    refine AWp.sched [0, 1, 2, 3, 4, 5, 6, 7, 8, 9, 10, 11, 12, 13, 14, 15] Fns.mixed (by decide +kernel) ?_
    have jt := hT.jt
    have hp1 := (hk2 H.length (by have := h.jlt; omega)).trans hp
    have hq1 := (hk2 (H.length + 1) (by have := h.jlt; omega)).trans hq
    have ht1 := hT1.ht
    simp only [List.length_map] at ht1
    simp [hp1, hq1, ht1, w1, AO.content, readN, fillA, splice, zerosEv]
    have ft : ∀ X : AH, (G1 ++ X)[t]? = _ := fun X => get_app ht1
    have fp : ∀ X : AH, (G1 ++ X)[H.length]? = _ := fun X => get_app hp1
    have fq : ∀ X : AH, (G1 ++ X)[H.length + 1]? = _ := fun X => get_app hq1
    refine ⟨by simp [recheck, ft, fp, fq, AO.content, readN], ?_⟩
    have hins := ins_tree (R := R) (jv := G1.length) (i := i + 1) (cv := .known 2) (hT1.app [.cells (ndV [leafN p, leafN q]) 54]) (a := leafN p) (b := leafN q) (by simp) (by simp; omega) (by omega) (by simp; omega)
    simp only [List.length_map] at hins
    refine hins.mono ?_
    rintro v G2 ⟨r, rfl, hrl, hrow, hk3⟩
    have hjl := h.jlt
    have htl := h.tlt
    simp only [List.length_append, List.length_cons, List.length_nil] at hrl hk3
    have ht2 : G2[t]? = some (.cells [.slice (.mu j) 0 N.length cp] 60) := by
      rw [hk3 t (by omega) (Ne.symm jt), List.getElem?_append_left (by omega)]; exact ht1
    have hp2 : G2[H.length]? = _ := (hk3 _ (by omega) (by omega)).trans (fp _)
    have hq2 : G2[H.length + 1]? = _ := (hk3 _ (by omega) (by omega)).trans (fq _)
    have htl2 := (List.getElem?_eq_some_iff.1 ht2).1
    obtain ⟨G3, hG3⟩ : ∃ G3, G3 = G2.set t (.cells [.slice (.mu r) 0 (N.length + 2) (.opn 0)] 60) := ⟨_, rfl⟩
    obtain ⟨L, hL⟩ : ∃ L, L = (N.map (mvN ((i : Int) + 1) 2)).take (i + 1) ++ [leafN p, leafN q] ++ (N.map (mvN ((i : Int) + 1) 2)).drop (i + 1) := ⟨_, rfl⟩
    have hLl : L.length = N.length + 2 := by rw [hL]; simp; omega
    rw [← hL] at hrow
    have hT3 : TreM G3 t r (.opn 0) L := by
      refine ⟨by rw [hG3, List.getElem?_set_self htl2, hLl], ⟨_, by rw [hG3, List.getElem?_set_ne (by omega)]; exact hrow, .inl ⟨rfl, rfl⟩⟩, by omega, by omega⟩
    obtain ⟨x, hx⟩ : ∃ x, L[i]? = some x := ⟨_, List.getElem?_eq_getElem (by omega)⟩
    have gt3 := hT3.ht
    rw [hLl] at gt3
    have hil : (i : Int) < (N.length : Int) + 2 := by omega
    have hil2 : i < N.length + 2 := by omega
    obtain ⟨G4, w4, T4, k4, l4⟩ := hT3.write (k := 0) (vs := ND.cells ⟨sd, (i : Int) + 1, (i : Int) + 2, share, 0, 0, 0⟩) (x' := ⟨sd, (i : Int) + 1, (i : Int) + 2, share, 0, 0, 0⟩) hx (by simp [ND.cells]) rfl rfl
    simp only [ND.cells, Nat.add_zero] at w4
    rw [hsd] at w4 T4
    simp [recheck, ht2, hp2, hq2, AO.content, AO.withContent, readN, writeN, splice]
    rw [← hG3]
    simp [gt3, hil, hil2, w1, w2, fillA, splice, AO.content]
    rw [w4]
    simp
    have lrow := (List.getElem?_eq_some_iff.1 hrow).1
    refine ⟨rfl, by rw [l4, hG3]; simp; omega, fun m hm hmt hmj => ?_, r, .opn 0, by rw [hL] at T4; exact T4, .inr (by omega)⟩
    rw [k4 m (by omega), hG3, List.getElem?_set_ne (Ne.symm hmt), hk3 m (by omega) hmj, List.getElem?_append_left (by omega), hk2 m hmj, hk1 m hm]
theorem TreM.stored {G : AH} {t r : Nat} {s : AV} {L : List ND} (ht : G[t]? = some (.cells [s] 60)) (hr : G[r]? = some (.row (ndV L) 54 7)) (h0 : 0 < L.length) (h1 : L.length ≤ 1000) : TreM (G.set t (.cells [.slice (.mu r) 0 L.length (.opn 0)] 60)) t r (.opn 0) L := by
  have hne : t ≠ r := fun e => by rw [e, hr] at ht; cases ht
  exact ⟨List.getElem?_set_self (List.getElem?_eq_some_iff.1 ht).1, ⟨_, by rw [List.getElem?_set_ne hne]; exact hr, .inl ⟨rfl, rfl⟩⟩, h0, h1⟩
def leafI (p : PA) (N : List ND) : Nat := N.findIdx (isLeaf p)
/-- Close: the leaf 'i', the split 'u' above it. -/
def cutN (i : Nat) (N : List ND) : List ND := (N.take i ++ N.drop (i + 1)).map (mvN ((i : Int) + 1) (-1))
def closeL (i u : Nat) (N : List ND) : List ND := cutN u (cutN i N)
def closeN (p : PA) (N : List ND) : Int × List ND :=
  if idx (isLeaf p) N < 0 then (4, N)
  else if (lv N).length = 1 then (9, N)
  else (0, closeL (N.findIdx (isLeaf p)) (N.findIdx (isAbove (N.findIdx (isLeaf p)))) N)
theorem bnd_sub {N : List ND} (hb : bnd N) (i : Nat) : bnd (N.take i ++ N.drop (i + 1)) := fun x hx => by
  rw [List.mem_append] at hx
  rcases hx with hx | hx
  · exact hb x (List.mem_of_mem_take hx)
  · exact hb x (List.mem_of_mem_drop hx)
theorem close_ok {H : AH} {t j : Nat} {cp : Cap} {N : List ND} (h : TreM H t j cp N) (hb : bnd N) (p : PA)
    (hgood : N.findIdx (isLeaf p) < N.length → (lv N).length ≠ 1 → 3 ≤ N.length ∧ N.findIdx (isAbove (N.findIdx (isLeaf p))) < N.findIdx (isLeaf p) ∧ bnd ((N.take (N.findIdx (isLeaf p)) ++ N.drop (N.findIdx (isLeaf p) + 1)).map (mvN ((N.findIdx (isLeaf p) : Int) + 1) (-1)))) :
    ACalls Try.prog R 12 [.ptr (.mu t) 0, p.av] H (ActOut H t j (closeN p N)) := by
  have hle := h.le
  refine ACalls.of_wpE Fns.ok12 (by simp [Fns.a12]) ?_
  obtain ⟨H1, hH1⟩ : ∃ H1, H1 = H ++ [AO.cells p.cells 25] := ⟨_, rfl⟩
  have hp : H1[H.length]? = some (.cells p.cells 25) := by rw [hH1]; simp
  have hT : TreM H1 t j cp N := by rw [hH1]; exact h.app _
  have hl1 : H1.length = H.length + 1 := by rw [hH1]; simp
  have hk1 : ∀ m, m < H.length → H1[m]? = H[m]? := fun m hm => by rw [hH1]; exact List.getElem?_append_left hm
  have same : ∀ c, closeN p N = (c, N) → ActOut H t j (closeN p N) (.int .i64 c) H1 :=
    fun c hc => by rw [hc]; exact ⟨rfl, by omega, fun m hm _ _ => hk1 m hm, j, cp, hT, .inl rfl⟩
  have hlf := leaf_ok (R := R) hT.tre p
  have hln := hT.tre.len (R := R)
  simp only [PA.av, PA.cells] at hlf hp hH1
  simp [Fns.a12, PA.av, PA.cells]
  rw [← hH1]
  refine hlf.mono ?_
  rintro v G ⟨rfl, rfl⟩
  simp [eqEv]
  rcases idx_cases (isLeaf p) N with ⟨e, hno⟩ | ⟨hlt, e⟩
  · simp [e]
    exact same 4 (by unfold closeN; rw [if_pos (by omega)])
  have e0 : ¬ ((N.findIdx (isLeaf p) : Int) < 0) := by omega
  simp [e, e0]
  refine hln.mono ?_
  rintro v G1 ⟨rfl, rfl⟩
  have s0 : closeN p N = if (lv N).length = 1 then (9, N) else (0, closeL (N.findIdx (isLeaf p)) (N.findIdx (isAbove (N.findIdx (isLeaf p)))) N) := by
    unfold closeN; rw [if_neg (by omega)]
  by_cases c5 : (lv N).length = 1
  · rw [if_pos c5] at s0
    simp [c5]
    exact same 9 s0
  rw [if_neg c5] at s0
  obtain ⟨h3, hu, hb2⟩ := hgood hlt c5
  rw [s0]
  obtain ⟨i, hi⟩ : ∃ i, i = N.findIdx (isLeaf p) := ⟨_, rfl⟩
  rw [← hi] at s0 hlt hu hb2 ⊢
  have hab := above_ok (R := R) hT.tre i
  rcases idx_cases (isAbove i) N with ⟨e', hno⟩ | ⟨hlt', e'⟩
  · exfalso
    have := List.findIdx_lt_length.1 (show N.findIdx (isAbove i) < N.length by omega)
    obtain ⟨x, hx, hf⟩ := this
    rw [hno x hx] at hf; cases hf
  obtain ⟨u, hud⟩ : ∃ u, u = N.findIdx (isAbove i) := ⟨_, rfl⟩
  rw [e'] at hab
  rw [← hud] at hu hlt' hab e' ⊢
  have w1 : IntKind.i64.wrap ((i : Int) + 1) = (i : Int) + 1 := by rw [wrap_nat] <;> omega
  have w2 : IntKind.i64.wrap ((u : Int) + 1) = (u : Int) + 1 := by rw [wrap_nat] <;> omega
  have c6 : ¬ ((lv N).length : Int) = 1 := by omega
  have hl1' := h.jlt
  have htl := h.tlt
  have jt := h.jt
  simp [c6]
  refine hab.mono ?_
  rintro v G1 ⟨rfl, rfl⟩
  have gt1 := hT.ht
  simp [gt1, w1, AO.content]
  refine (del_tree hT hlt (by omega)).mono ?_
  rintro v G2 ⟨r, rfl, hrl, hrow, hk2⟩
  have ht2 := (hk2 t (by omega) (Ne.symm jt)).trans gt1
  have hT3 := TreM.stored ht2 hrow (by simp; omega) (by simp; omega)
  obtain ⟨A, hA⟩ : ∃ A, A = N.take i ++ N.drop (i + 1) := ⟨_, rfl⟩
  have hbA : bnd A := by rw [hA]; exact bnd_sub hb i
  have hAl : A.length = N.length - 1 := by rw [hA]; simp; omega
  rw [← hA] at hT3 hrow hb2
  rw [hAl] at hT3
  obtain ⟨G3, hG3⟩ : ∃ G3, G3 = G2.set t (.cells [.slice (.mu r) 0 (N.length - 1) (.opn 0)] 60) := ⟨_, rfl⟩
  rw [← hG3] at hT3
  have hrl2 := (List.getElem?_eq_some_iff.1 hrow).1
  have hk3 : ∀ m, m < H.length → m ≠ t → m ≠ j → G3[m]? = H[m]? := fun m hm hmt hmj => by
    rw [hG3, List.getElem?_set_ne (Ne.symm hmt), hk2 m (by omega) hmj, hk1 m hm]
  have hl3 : H.length ≤ G3.length := by rw [hG3]; simp; omega
  simp [ht2, AO.content, AO.withContent, writeN, splice]
  rw [← hG3, w1]
  refine (moves_ok hT3 hbA ((i : Int) + 1) (-1) (by omega) (by omega)).mono ?_
  rintro v G4 ⟨rfl, hT4, hk4, hl4⟩
  have gt4 := hT4.ht
  have hr3 := hT3.jlt
  obtain ⟨M, hM⟩ : ∃ M, M = A.map (mvN ((i : Int) + 1) (-1)) := ⟨_, rfl⟩
  rw [← hM] at hT4 gt4 hb2
  have hMl : M.length = N.length - 1 := by rw [hM]; simp [hAl]
  simp [gt4, w2, AO.content]
  refine (del_tree hT4 (i := u) (by omega) (by omega)).mono ?_
  rintro v G5 ⟨r2, rfl, hrl5, hrow5, hk5⟩
  have htG4 := hT4.tlt
  have ht5 := (hk5 t (by omega) (Ne.symm hT4.jt)).trans gt4
  have hT6 := TreM.stored ht5 hrow5 (by simp; omega) (by simp; omega)
  obtain ⟨B, hB⟩ : ∃ B, B = M.take u ++ M.drop (u + 1) := ⟨_, rfl⟩
  have hbB : bnd B := by rw [hB]; exact bnd_sub hb2 u
  have hBl : B.length = M.length - 1 := by rw [hB]; simp; omega
  rw [← hB] at hT6
  rw [hBl] at hT6
  obtain ⟨G6, hG6⟩ : ∃ G6, G6 = G5.set t (.cells [.slice (.mu r2) 0 (M.length - 1) (.opn 0)] 60) := ⟨_, rfl⟩
  rw [← hG6] at hT6
  have hrl6 := (List.getElem?_eq_some_iff.1 hrow5).1
  simp [ht5, AO.content, AO.withContent, writeN, splice]
  rw [← hG6, w2]
  refine (moves_ok hT6 hbB ((u : Int) + 1) (-1) (by omega) (by omega)).mono ?_
  rintro v G7 ⟨rfl, hT7, hk7, hl7⟩
  simp
  have hl6 : G5.length = G6.length := by rw [hG6]; simp
  refine ⟨rfl, by omega, fun m hm hmt hmj => ?_, r2, .opn 0, ?_, .inr (by omega)⟩
  · rw [hk7 m (by omega), hG6, List.getElem?_set_ne (Ne.symm hmt), hk5 m (by omega) (by omega), hk4 m (by omega), hk3 m hm hmt hmj]
  · unfold closeL
    unfold cutN
    rw [← hA, ← hM, ← hB]; exact hT7
end Go.Proofs.Ytffmpomidfickaa.Tr
