/- A tree's acts: Swap, Share. -/
import Derived.Test.YtffmpomidfickaaTrOps
namespace Go.Proofs.Ytffmpomidfickaa.Tr
open Go Go.RowKit Am
set_option maxRecDepth 100000
set_option maxHeartbeats 1000000
set_option linter.unusedSimpArgs false
set_option linter.unusedVariables false
attribute [-simp] Am.binEv Am.intBin Am.read1
attribute [local simp] binEv_lss binEv_leq binEv_gtr binEv_geq binEv_eql binEv_neq binEv_add binEv_sub binEv_mul read1_ro read1_mu
variable {R : Ro}
def ND.withPa (x : ND) (p : PA) : ND := { x with a := p.a, b := p.b, c := p.c }
def setPa (i : Nat) (p : PA) (N : List ND) : List ND := match N[i]? with
  | some x => N.set i (x.withPa p)
  | none => N
def swapN (p q : PA) (N : List ND) : Int × List ND :=
  if idx (isLeaf p) N < 0 ∨ idx (isLeaf q) N < 0 then (4, N)
  else (0, setPa (N.findIdx (isLeaf q)) p (setPa (N.findIdx (isLeaf p)) q N))
theorem setPa_len (i : Nat) (p : PA) (N : List ND) : (setPa i p N).length = N.length := by unfold setPa; split <;> simp
theorem TreM.setPa {H : AH} {t j : Nat} {cp : Cap} {N : List ND} (h : TreM H t j cp N) {i : Nat} (hi : i < N.length) (p : PA) :
    ∃ G, writeN H j (i * 7 + 4) p.cells = some G ∧ TreM G t j cp (Tr.setPa i p N) ∧ (∀ m, m ≠ j → G[m]? = H[m]?) ∧ G.length = H.length := by
  obtain ⟨x, hx⟩ : ∃ x, N[i]? = some x := ⟨_, List.getElem?_eq_getElem hi⟩
  have := h.write (k := 4) (vs := p.cells) (x' := x.withPa p) hx (by simp [PA.cells]) rfl rfl
  unfold Tr.setPa
  rw [hx]
  exact this
theorem swap_ok {H : AH} {t j : Nat} {cp : Cap} {N : List ND} (h : TreM H t j cp N) (p q : PA) :
    ACalls Try.prog R 25 [.ptr (.mu t) 0, p.av, q.av] H (ActOut H t j (swapN p q N)) := by
  have hle := h.le
  refine ACalls.of_wpE Fns.ok25 (by simp [Fns.a25]) ?_
  obtain ⟨H1, hH1⟩ : ∃ H1, H1 = H ++ [AO.cells p.cells 25, AO.cells q.cells 25] := ⟨_, rfl⟩
  have hp : H1[H.length]? = some (.cells p.cells 25) := by rw [hH1]; simp
  have hq : H1[H.length + 1]? = some (.cells q.cells 25) := by rw [hH1]; simp
  have hT : TreM H1 t j cp N := by rw [hH1]; exact h.app _
  have hl1 : H1.length = H.length + 2 := by rw [hH1]; simp
  have hk1 : ∀ m, m < H.length → H1[m]? = H[m]? := fun m hm => by rw [hH1]; exact List.getElem?_append_left hm
  have same : ∀ c, swapN p q N = (c, N) → ActOut H t j (swapN p q N) (.int .i64 c) H1 :=
    fun c hc => by rw [hc]; exact ⟨rfl, by omega, fun m hm _ _ => hk1 m hm, j, cp, hT, .inl rfl⟩
  have hlf := leaf_ok (R := R) hT.tre p
  have hlq := leaf_ok (R := R) hT.tre q
  simp only [PA.av, PA.cells] at hlf hlq hp hq hH1
  simp [Fns.a25, PA.av, PA.cells]
  rw [← hH1]
  refine AWp.sched [0, 1, 3, 4, 2, 5, 6, 7] Fns.mixed (by decide +kernel) ?_
  simp [hp, hq, AO.content, readN]
  refine hlf.mono ?_
  rintro v G ⟨rfl, rfl⟩
  simp [recheck, hp, hq, AO.content, readN]
  refine hlq.mono ?_
  rintro v G ⟨rfl, rfl⟩
  simp [recheck, hp, hq, AO.content, readN, eqEv]
  rcases idx_cases (isLeaf p) N with ⟨e, hno⟩ | ⟨hlt, e⟩
  · simp [e]
    exact same 4 (by unfold swapN; rw [if_pos (by omega)])
  have e0 : ¬ ((N.findIdx (isLeaf p) : Int) < 0) := by omega
  rcases idx_cases (isLeaf q) N with ⟨e', hno⟩ | ⟨hlt', e'⟩
  · simp [e, e0, e']
    exact same 4 (by unfold swapN; rw [if_pos (by omega)])
  have e0' : ¬ ((N.findIdx (isLeaf q) : Int) < 0) := by omega
  have s0 : swapN p q N = (0, setPa (N.findIdx (isLeaf q)) p (setPa (N.findIdx (isLeaf p)) q N)) := by
    unfold swapN; rw [if_neg (by omega)]
  rw [s0]
  simp [e, e0, e', e0']
  generalize N.findIdx (isLeaf p) = a at *
  generalize N.findIdx (isLeaf q) = b at *
  have gt := hT.ht
  obtain ⟨G1, w1, T1, k1, l1⟩ := hT.setPa hlt q
  obtain ⟨G2, w2, T2, k2, l2⟩ := T1.setPa (i := b) (by rw [setPa_len]; exact hlt') p
  have hjl := h.jlt
  have hp1 : G1[H.length]? = _ := (k1 _ (by omega)).trans hp
  have hq1 : G1[H.length + 1]? = _ := (k1 _ (by omega)).trans hq
  have gt1 : G1[t]? = _ := (k1 _ (Ne.symm h.jt)).trans gt
  simp only [PA.cells] at w1 w2
  refine AWp.sched [0, 1, 2, 3, 4, 5, 6, 7, 8, 9, 10, 11, 12, 13, 14, 15, 16, 17] Fns.mixed (by decide +kernel) ?_
  have ha : (a : Int) < (N.length : Int) := by omega
  have hb : (b : Int) < (N.length : Int) := by omega
  simp [hp, hq, gt, AO.content, readN, ha, hb, hlt, hlt']
  rw [w1]
  simp [recheck, hp1, hq1, gt1, AO.content, readN, ha, hb, hlt, hlt']
  rw [w2]
  simp
  exact ⟨rfl, by omega, fun m hm hmt hmj => by rw [k2 m hmj, k1 m hmj, hk1 m hm], j, cp, T2, .inl rfl⟩
def mxI (a b : Int) : Int := if a < b then b else a
def mnI (a b : Int) : Int := if b < a then b else a
theorem fold_mxI (a b : Int) : foldI (fun x y => if x < y then y else x) IntKind.i64 a [AV.int IntKind.i64 b] = some (.int .i64 (mxI a b)) := by simp [foldI, mxI]
theorem fold_mnI (a b : Int) : foldI (fun x y => if y < x then y else x) IntKind.i64 a [AV.int IntKind.i64 b] = some (.int .i64 (mnI a b)) := by simp [foldI, mnI]
def clamp (lo hi a : Int) : Int := mnI (mxI a lo) hi
theorem clamp_le {lo hi : Int} (h : lo ≤ hi) (a : Int) : lo ≤ clamp lo hi a ∧ clamp lo hi a ≤ hi := by
  unfold clamp mnI mxI; split <;> split <;> omega
def sideAt (N : List ND) (u : Nat) : Int := match N[u]? with | some x => x.side | none => 0
def climb (side : Int) (N : List ND) (a : Nat) : Nat × Int :=
  match idx (isAbove a) N with
  | .ofNat u => if u < a then (if sideAt N u ≠ side then climb side N u else (a, (u : Int))) else (a, (u : Int))
  | .negSucc _ => (a, -1)
def shareL (side by' : Int) (a : Nat) (N : List ND) : Int × List ND := match climb side N a with
  | (a, .ofNat u) => match N[u]? with
    | some x => (0, N.set u { x with sh := clamp 1 99 (if x.f = (a : Int) then x.sh + by' else x.sh - by') })
    | none => (9, N)
  | (_, .negSucc _) => (9, N)
def shareN (p : PA) (side by' : Int) (N : List ND) : Int × List ND :=
  if idx (isLeaf p) N < 0 then (4, N)
  else if ¬ (side = 1 ∨ side = 2) then (1, N)
  else shareL side (clamp (-99) 99 by') (N.findIdx (isLeaf p)) N
theorem climb_none {side : Int} {N : List ND} {a : Nat} (h : idx (isAbove a) N = -1) : climb side N a = (a, -1) := by
  rw [climb, h]; rfl
theorem climb_stop {side : Int} {N : List ND} {a u : Nat} (h : idx (isAbove a) N = (u : Int)) (hs : sideAt N u = side) : climb side N a = (a, (u : Int)) := by
  rw [climb, h]
  show (if u < a then (if sideAt N u ≠ side then climb side N u else (a, (u : Int))) else (a, (u : Int))) = _
  rw [if_neg (c := sideAt N u ≠ side) (by simpa using hs)]; simp
theorem climb_step {side : Int} {N : List ND} {a u : Nat} (h : idx (isAbove a) N = (u : Int)) (hu : u < a) (hs : sideAt N u ≠ side) : climb side N a = climb side N u := by
  rw [climb, h]
  show (if u < a then (if sideAt N u ≠ side then climb side N u else (a, (u : Int))) else (a, (u : Int))) = _
  rw [if_pos hu, if_pos hs]
set_option maxHeartbeats 4000000 in
theorem share_ok {H : AH} {t j : Nat} {cp : Cap} {N : List ND} (h : TreM H t j cp N) (hb : bnd N) (hup : ∀ a : Nat, N.findIdx (isAbove a) < N.length → N.findIdx (isAbove a) < a) (p : PA) (side by' : Int) :
    ACalls Try.prog R 13 [.ptr (.mu t) 0, p.av, .int .i64 side, .int .i64 by'] H (ActOut H t j (shareN p side by' N)) := by
  have hle := h.le
  refine ACalls.of_wpE Fns.ok13 (by simp [Fns.a13]) ?_
  obtain ⟨H1, hH1⟩ : ∃ H1, H1 = H ++ [AO.cells p.cells 25] := ⟨_, rfl⟩
  have hp : H1[H.length]? = some (.cells p.cells 25) := by rw [hH1]; simp
  have hT : TreM H1 t j cp N := by rw [hH1]; exact h.app _
  have hl1 : H1.length = H.length + 1 := by rw [hH1]; simp
  have hk1 : ∀ m, m < H.length → H1[m]? = H[m]? := fun m hm => by rw [hH1]; exact List.getElem?_append_left hm
  have same : ∀ c, shareN p side by' N = (c, N) → ActOut H t j (shareN p side by' N) (.int .i64 c) H1 :=
    fun c hc => by rw [hc]; exact ⟨rfl, by omega, fun m hm _ _ => hk1 m hm, j, cp, hT, .inl rfl⟩
  have hlf := leaf_ok (R := R) hT.tre p
  have hab := fun i => above_ok (R := R) hT.tre i
  have gt := hT.ht
  simp only [PA.av, PA.cells] at hlf hp hH1
  simp [Fns.a13, PA.av, PA.cells]
  rw [← hH1]
  refine hlf.mono ?_
  rintro v G ⟨rfl, rfl⟩
  simp [eqEv]
  rcases idx_cases (isLeaf p) N with ⟨e, hno⟩ | ⟨hlt, e⟩
  · simp [e]
    exact same 4 (by unfold shareN; rw [if_pos (by omega)])
  have e0 : ¬ ((N.findIdx (isLeaf p) : Int) < 0) := by omega
  by_cases hs : ¬ (side = 1 ∨ side = 2)
  · have c1 : ¬ side = 1 := by omega
    have c2 : ¬ side = 2 := by omega
    simp [e, e0, c1, c2]
    exact same 1 (by unfold shareN; rw [if_neg (by omega), if_pos hs])
  have s0 : shareN p side by' N = shareL side (clamp (-99) 99 by') (N.findIdx (isLeaf p)) N := by
    unfold shareN; rw [if_neg (by omega), if_neg (by omega)]
  rw [s0] at same ⊢
  have hcl := clamp_le (show (-99 : Int) ≤ 99 by omega) by'
  have hcd : mnI (mxI by' (-99)) 99 = clamp (-99) 99 by' := rfl
  generalize hcb : clamp (-99) 99 by' = b' at *
  obtain ⟨a0, ha0⟩ : ∃ a0, a0 = N.findIdx (isLeaf p) := ⟨_, rfl⟩
  rw [← ha0] at same hlt e e0 ⊢
  have hco : side = 1 ∨ (¬ side = 1 ∧ side = 2) := by omega
  have hsd : (decide (side = 1) = true) ∨ (decide (side = 1) = false ∧ decide (side = 2) = true) := by
    rcases hco with h | ⟨h1, h2⟩
    · exact .inl (by simpa using h)
    · exact .inr ⟨by simpa using h1, by simpa using h2⟩
  clear hs s0 hco
  rcases hsd with d1 | ⟨d1, d2⟩
  all_goals
    simp [e, e0, fold_mxI, fold_mnI, hcd, d1]
    try simp [e, e0, fold_mxI, fold_mnI, hcd, d2]
    refine (hab a0).mono ?_
    rintro v G1 ⟨rfl, rfl⟩
    simp
    refine AWp.loop (fun e G => G = G1 ∧ e 0 = .ptr (.mu t) 0 ∧ e 2 = .int .i64 side ∧ e 3 = .int .i64 b' ∧ ∃ a : Nat, e 9 = .int .i64 a ∧ e 10 = .int .i64 (idx (isAbove a) N) ∧ a < N.length ∧ climb side N a = climb side N a0) (fun e _ => match e 9 with | .int _ i => i.toNat | _ => 0)
      ⟨rfl, by simp, by simp, by simp, a0, by simp [e], by simp, hlt, rfl⟩ ?_
    rintro e1 G ⟨rfl, h0, h2, h3, a, h9, h10, hal, hcm⟩
    refine wpE_sound _ ?_
    have hfin : ∀ (c : Int) (L : List ND) (G' : AH), shareL side b' a0 N = (c, L) → G'.length = G.length → (∀ m, m ≠ j → G'[m]? = G[m]?) → TreM G' t j cp L → ActOut H t j (shareL side b' a0 N) (.int .i64 c) G' :=
      fun c L G' hc hl hk hTT => by rw [hc]; exact ⟨rfl, by omega, fun m hm hmt hmj => by rw [hk m hmj, hk1 m hm], j, cp, hTT, .inl rfl⟩
    rcases idx_cases (isAbove a) N with ⟨ea, hno⟩ | ⟨hul, ea⟩
    · have hst := climb_none (side := side) ea
      have hr : shareL side b' a0 N = (9, N) := by unfold shareL; rw [← hcm, hst]; rfl
      simp [h10, ea]
      exact hfin 9 N G hr rfl (fun _ _ => rfl) hT
    · have hua := hup a hul
      obtain ⟨u, hu⟩ : ∃ u, u = N.findIdx (isAbove a) := ⟨_, rfl⟩
      rw [← hu] at hul ea hua
      obtain ⟨x, hx⟩ : ∃ x, N[u]? = some x := ⟨_, List.getElem?_eq_getElem hul⟩
      have hsx : sideAt N u = x.side := by unfold sideAt; rw [hx]
      have gr := hT.hr
      have q0 := ndV_get hx 0 (by omega)
      have q1 := ndV_get hx 1 (by omega)
      have q3 := ndV_get hx 3 (by omega)
      simp [ND.cells] at q0 q1 q3
      have hul' : (u : Int) < N.length := by omega
      have hun : ¬ (u : Int) < 0 := by omega
      by_cases hxs : x.side = side
      · have hst := climb_stop (side := side) ea (by rw [hsx]; exact hxs)
        have hr : shareL side b' a0 N = (0, N.set u { x with sh := clamp 1 99 (if x.f = (a : Int) then x.sh + b' else x.sh - b') }) := by
          unfold shareL; rw [← hcm, hst]; simp only [Int.ofNat_eq_natCast]; rw [hx]
        obtain ⟨_, _, _, _, b5, b6⟩ := hb x (List.mem_of_getElem? hx)
        by_cases hf : x.f = (a : Int)
        · rw [if_pos hf] at hr
          have ws : IntKind.i64.wrap (x.sh + b') = x.sh + b' := by simp only [IntKind.wrap, IntKind.bits, IntKind.signed]; simp; omega
          obtain ⟨G1, w1, T1, k1, l1⟩ := hT.write (k := 3) (vs := [.int .i64 (clamp 1 99 (x.sh + b'))]) (x' := { x with sh := clamp 1 99 (x.sh + b') }) hx (by simp) rfl rfl
          have hcd2 : mnI (mxI (x.sh + b') 1) 99 = clamp 1 99 (x.sh + b') := rfl
          simp [h0, h2, h3, h9, h10, ea, hun, gt, gr, hul, hul', q0, q1, q3, hxs, hf, ws, fold_mxI, fold_mnI, hcd2, AO.content]
          rw [w1]
          simp
          exact hfin 0 _ G1 hr l1 k1 T1
        · rw [if_neg hf] at hr
          have ws : IntKind.i64.wrap (x.sh - b') = x.sh - b' := by simp only [IntKind.wrap, IntKind.bits, IntKind.signed]; simp; omega
          obtain ⟨G1, w1, T1, k1, l1⟩ := hT.write (k := 3) (vs := [.int .i64 (clamp 1 99 (x.sh - b'))]) (x' := { x with sh := clamp 1 99 (x.sh - b') }) hx (by simp) rfl rfl
          have hcd2 : mnI (mxI (x.sh - b') 1) 99 = clamp 1 99 (x.sh - b') := rfl
          simp [h0, h2, h3, h9, h10, ea, hun, gt, gr, hul, hul', q0, q1, q3, hxs, hf, ws, fold_mxI, fold_mnI, hcd2, AO.content]
          rw [w1]
          simp
          exact hfin 0 _ G1 hr l1 k1 T1
      · have hst := climb_step (side := side) ea hua (by rw [hsx]; exact hxs)
        simp [h0, h2, h3, h9, h10, ea, hun, gt, gr, hul, hul', q0, hxs, AO.content]
        refine (hab u).mono ?_
        rintro v G1 ⟨rfl, rfl⟩
        simp [h0, h2, h3, h9, h10, ea]
        exact ⟨⟨u, rfl, rfl, hul, by rw [← hst]; exact hcm⟩, hua⟩
end Go.Proofs.Ytffmpomidfickaa.Tr
