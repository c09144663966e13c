/- The document's tree, where it lies: what it has, its panes, how it is told. -/
import Derived.Test.YtbcfhiohdamcjaaTrPure4
import Derived.Test.YtbcfhiohdamcjaaTrPaV
namespace Go.Proofs.Ytbcfhiohdamcjaa.Tr
open Go Go.RowKit Am
set_option maxRecDepth 100000
set_option maxHeartbeats 1000000
set_option linter.unusedSimpArgs false
set_option linter.unusedVariables false
attribute [-simp] Am.binEv Am.intBin Am.read1
attribute [local simp] binEv_lss binEv_leq binEv_gtr binEv_geq binEv_eql binEv_neq binEv_add binEv_sub binEv_mul read1_ro read1_mu
variable {R : Ro}
open PT
inductive DT where
  | leaf (x : Nat) (p : PA)
  | split (x : Nat) (sd sh : Int) (a b : DT)
namespace DT
def ad : DT → Nat
  | leaf x _ => x
  | split x _ _ _ _ => x
def ads : DT → List Nat
  | leaf x _ => [x]
  | split x _ _ a b => x :: (a.ads ++ b.ads)
def shape : DT → PT
  | leaf _ p => .leaf p
  | split _ sd sh a b => .split sd sh a.shape b.shape
def find (p : PA) : DT → Option Nat
  | leaf x r => if r = p then some x else none
  | split _ _ _ a b => match a.find p with
    | some y => some y
    | none => b.find p
end DT
open DT
def rleaf (p : PA) : List AV := [.int .i64 0, .int .i64 0, .nilptr, .nilptr, .int .i64 p.a, .int .i64 p.b, .int .i64 p.c]
def rsplit (sd sh : Int) (x y : Nat) : List AV := [.int .i64 sd, .int .i64 sh, .ptr (.mu x) 0, .ptr (.mu y) 0, .int .i64 0, .int .i64 0, .int .i64 0]
def HasD (H : AH) : DT → Prop
  | .leaf x p => H[x]? = some (.cells (rleaf p) 86)
  | .split x sd sh a b => H[x]? = some (.cells (rsplit sd sh a.ad b.ad) 86) ∧ HasD H a ∧ HasD H b
theorem HasD.frame {H G : AH} : ∀ {D : DT}, HasD H D → (∀ m ∈ D.ads, G[m]? = H[m]?) → HasD G D
  | .leaf x p, h, hk => by
    simp only [HasD] at h ⊢
    rw [hk x (by simp [DT.ads])]; exact h
  | .split x sd sh a b, ⟨h1, h2, h3⟩, hk => by
    refine ⟨?_, h2.frame fun m hm => hk m (by simp [DT.ads, hm]), h3.frame fun m hm => hk m (by simp [DT.ads, hm])⟩
    rw [hk x (by simp [DT.ads])]; exact h1
theorem HasD.lt {H : AH} : ∀ {D : DT}, HasD H D → ∀ m ∈ D.ads, m < H.length
  | .leaf x p, h, m, hm => by
    simp [DT.ads] at hm; subst hm; exact (List.getElem?_eq_some_iff.1 h).1
  | .split x sd sh a b, ⟨h1, h2, h3⟩, m, hm => by
    simp only [DT.ads, List.mem_cons, List.mem_append] at hm
    rcases hm with rfl | hm | hm
    · exact (List.getElem?_eq_some_iff.1 h1).1
    · exact h2.lt m hm
    · exact h3.lt m hm
theorem HasD.kind {H : AH} : ∀ {D : DT}, HasD H D → ∀ m ∈ D.ads, ∃ c, H[m]? = some (.cells c 86)
  | .leaf x p, h, m, hm => by
    simp [DT.ads] at hm; subst hm; exact ⟨_, h⟩
  | .split x sd sh a b, ⟨h1, h2, h3⟩, m, hm => by
    simp only [DT.ads, List.mem_cons, List.mem_append] at hm
    rcases hm with rfl | hm | hm
    · exact ⟨_, h1⟩
    · exact h2.kind m hm
    · exact h3.kind m hm
theorem HasD.app {H : AH} {D : DT} (h : HasD H D) (X : AH) : HasD (H ++ X) D :=
  h.frame fun m hm => List.getElem?_append_left (h.lt m hm)
theorem find_pos {p : PA} : ∀ {D : DT}, D.find p = none ↔ D.shape.pos p = none
  | .leaf x r => by simp [DT.find, DT.shape, pos]
  | .split x sd sh a b => by
    have ha := find_pos (p := p) (D := a)
    have hb := find_pos (p := p) (D := b)
    simp only [DT.find, DT.shape, pos]
    cases h1 : a.find p with
    | some y =>
      cases h2 : a.shape.pos p with
      | some i => simp
      | none => rw [ha.2 h2] at h1; cases h1
    | none =>
      rw [ha.1 h1]
      simp [hb]
theorem ad_mem (D : DT) : D.ad ∈ D.ads := by cases D <;> simp [DT.ad, DT.ads]
def optP : Option Nat → AV
  | some x => .ptr (.mu x) 0
  | none => .nilptr
def lowV (n : Nat) : AV → Bool
  | .ptr (.mu i) _ => decide (i < n)
  | v => (ren [] v).isSome
/-- As gc, of a pointer to what was there. -/
theorem ACalls.gcP {P : Program} {R : Ro} {f : FuncId} {args : List AV} {H : AH} {K : AV → Prop} (h : ACalls P R f args H fun v H' => (∃ G, H' = H ++ G) ∧ lowV H.length v = true ∧ K v) : ACalls P R f args H fun v H' => H' = H ∧ K v := by
  intro base hR ρ w Vs hrel hV
  refine (h base hR ρ w Vs hrel hV).mono ?_
  rintro e w' ⟨v, V, ρ', H', rfl, hx, hr, hv, ⟨G, rfl⟩, hs, hk⟩
  have key : ren ρ v = some V := by
    have gen : (ren [] v).isSome = true → ren ρ v = some V := fun hs => by
      obtain ⟨V0, h0⟩ := Option.isSome_iff_exists.1 hs
      have h1 := ren_ext (ρ' := ρ') ⟨ρ', by simp⟩ h0
      rw [hv] at h1; cases h1
      exact ren_ext ⟨ρ, by simp⟩ h0
    cases v with
    | ptr l o =>
      cases l with
      | mu i =>
        simp only [lowV, decide_eq_true_eq] at hs
        rw [← hrel.len] at hs
        obtain ⟨x, rfl⟩ := hx
        simp only [ren, Loc.addr] at hv ⊢
        rw [List.getElem?_append_left hs] at hv
        exact hv
      | ro b => exact gen hs
    | _ => exact gen hs
  exact ⟨v, V, ρ, H, rfl, Ext.refl _, hrel.back hr hx, key, rfl, hk⟩
theorem find_ads {p : PA} : ∀ {D : DT} {y : Nat}, D.find p = some y → y ∈ D.ads
  | .leaf x r, y, h => by
    simp only [DT.find] at h
    split at h <;> cases h
    simp [DT.ads]
  | .split x sd sh a b, y, h => by
    simp only [DT.find] at h
    split at h
    · rename_i z hz
      cases h
      simp [DT.ads, find_ads hz]
    · simp [DT.ads, find_ads h]
theorem low_find {H : AH} {D : DT} (h : HasD H D) (p : PA) : lowV H.length (optP (D.find p)) = true := by
  cases hf : D.find p with
  | none => rfl
  | some y => simp [optP, lowV]; exact h.lt y (find_ads hf)
theorem find_ok (p : PA) : ∀ {D : DT} {H : AH}, D.shape.sides → HasD H D → ACalls Try.prog R 41 [.ptr (.mu D.ad) 0, p.av] H fun v G => G = H ∧ v = optP (D.find p)
  | .leaf x r, H, _, h => by
    have hlow := low_find h p
    refine ACalls.gcP ?_
    refine ACalls.of_wpE Fns.ok41 (by simp [Fns.a41]) ?_
    have he := eqP r.a r.b r.c p.a p.b p.c
    simp only [fieldsP] at he
    simp only [HasD, rleaf] at h
    have h1 : (H ++ [AO.cells [AV.int .i64 p.a, .int .i64 p.b, .int .i64 p.c] 32])[x]? = _ := get_app h
    simp [Fns.a41, PA.av, PA.cells, DT.ad, h1, AO.content]
    refine AWp.sched [0, 1, 2, 3, 4, 5] Fns.mixed (by decide +kernel) ?_
    simp [-eqEv, h1, AO.content, readN, he]
    have hd : (decide (r.a = p.a) && (decide (r.b = p.b) && decide (r.c = p.c))) = decide (r = p) := by
      rw [Bool.eq_iff_iff]; simp [PA.eq]
    rw [hd]
    by_cases hp : r = p
    · simp only [DT.find, hp, if_true] at hlow
      simp [hp, DT.find, optP, ren]
      exact hlow
    · simp [hp, DT.find, optP, ren, lowV]
  | .split x sd sh a b, H, ⟨s1, _, _, sa, sb⟩, ⟨h, ha, hb⟩ => by
    have hlow := low_find (D := .split x sd sh a b) ⟨h, ha, hb⟩ p
    refine ACalls.gcP ?_
    refine ACalls.of_wpE Fns.ok41 (by simp [Fns.a41]) ?_
    have s0 : ¬ sd = 0 := by omega
    simp only [rsplit] at h
    have h1 : (H ++ [AO.cells [AV.int .i64 p.a, .int .i64 p.b, .int .i64 p.c] 32])[x]? = _ := get_app h
    have fa := find_ok p sa (ha.app [AO.cells [AV.int .i64 p.a, .int .i64 p.b, .int .i64 p.c] 32])
    have fb := find_ok p sb (hb.app [AO.cells [AV.int .i64 p.a, .int .i64 p.b, .int .i64 p.c] 32])
    simp only [PA.av, PA.cells] at fa fb
    simp [Fns.a41, PA.av, PA.cells, DT.ad, h1, AO.content, s0]
    refine AWp.sched [0, 1, 2, 3, 4, 5, 6] Fns.mixed (by decide +kernel) ?_
    simp [h1, AO.content, readN]
    refine fa.mono ?_
    rintro v G ⟨rfl, rfl⟩
    cases hfa : a.find p with
    | some y =>
      simp only [DT.find, hfa, optP] at hlow
      simp [recheck, h1, AO.content, readN, optP, eqEv, ren, DT.find, hfa]
      exact hlow
    | none =>
      simp [recheck, h1, AO.content, readN, optP, eqEv]
      refine AWp.sched [0, 1, 2, 3, 4, 5, 6] Fns.mixed (by decide +kernel) ?_
      simp [h1, AO.content, readN]
      refine fb.mono ?_
      rintro v G ⟨rfl, rfl⟩
      simp only [DT.find, hfa] at hlow
      simp [recheck, h1, AO.content, readN, ren, DT.find, hfa]
      exact ⟨hlow, by cases b.find p <;> rfl⟩
/-- A tree of the document's. -/
structure RT (H : AH) (w : Nat) (D : DT) : Prop where
  hw : H[w]? = some (.cells [.ptr (.mu D.ad) 0] 88)
  has : HasD H D
  nodup : D.ads.Nodup
theorem RT.app {H : AH} {w : Nat} {D : DT} (h : RT H w D) (X : AH) : RT (H ++ X) w D := ⟨get_app h.hw, h.has.app X, h.nodup⟩
theorem rhas_ok {H : AH} {w : Nat} {D : DT} (h : RT H w D) (hs : D.shape.sides) (p : PA) : ACalls Try.prog R 42 [.ptr (.mu w) 0, p.av] H fun v G => G = H ∧ v = .bool (decide (D.shape.pos p ≠ none)) := by
  refine ACalls.gc ?_
  refine ACalls.of_wpE Fns.ok42 (by simp [Fns.a42]) ?_
  have h1 := h.app [AO.cells [AV.int .i64 p.a, .int .i64 p.b, .int .i64 p.c] 32]
  have fa := find_ok (R := R) p hs h1.has
  have hw := h1.hw
  simp only [PA.av, PA.cells] at fa
  simp [Fns.a42, PA.av, PA.cells]
  refine AWp.sched [0, 1, 2, 3, 4, 5, 6, 7] Fns.mixed (by decide +kernel) ?_
  simp [hw, AO.content, readN]
  refine fa.mono ?_
  rintro v G ⟨rfl, rfl⟩
  have := find_pos (p := p) (D := D)
  cases hf : D.find p with
  | none => simp [recheck, hw, AO.content, readN, optP, eqEv, ren, this.1 hf]
  | some y =>
    have hn : D.shape.pos p ≠ none := fun e => by rw [this.2 e] at hf; cases hf
    simp [recheck, hw, AO.content, readN, optP, eqEv, ren, hn]
/-! ### Slices that are gathered -/
structure GRow (ty sz : Nat) (H : AH) (v : AV) (G : AH) (C : List AV) (n : Nat) : Prop where
  old : ∀ i, i < H.length → G[i]? = H[i]?
  len : H.length ≤ G.length
  cl : C.length = n * sz
  one : C.all AV.oneCell = true
  row : ∃ r cp, v = .slice (.mu r) 0 n cp ∧ H.length ≤ r ∧ ((cp = .opn 0 ∧ G[r]? = some (.row C ty sz)) ∨ (cp = .known n ∧ G[r]? = some (.cells C ty)))
theorem grow_app {ty sz by' : Nat} {H G1 G2 : AH} {v1 v2 : AV} {C1 C2 : List AV} {n1 n2 : Nat} (h1 : GRow ty sz H v1 G1 C1 n1) (h2 : GRow ty sz G1 v2 G2 C2 n2) (hn2 : 0 < n2) (hsz : sz ≠ 0) (hby : by' ≠ 0) (hfit : (n1 + n2) * by' ≤ 140737488355328) :
    ∃ v3 G3, appendEv R G2 ty sz by' v1 v2 = some (v3, G3) ∧ GRow ty sz H v3 G3 (C1 ++ C2) (n1 + n2) := by
  obtain ⟨r1, c1, rfl, hr1, hk1⟩ := h1.row
  obtain ⟨r2, c2, rfl, hr2, hk2⟩ := h2.row
  have hl1 : r1 < G1.length := by rcases hk1 with ⟨_, h⟩ | ⟨_, h⟩ <;> exact (List.getElem?_eq_some_iff.1 h).1
  have hl2 : r2 < G2.length := by rcases hk2 with ⟨_, h⟩ | ⟨_, h⟩ <;> exact (List.getElem?_eq_some_iff.1 h).1
  have hold := h2.old r1 hl1
  have hlen := h1.len
  have hlen2 := h2.len
  have hc1 := h1.cl
  have hc2 := h2.cl
  have hsrc : srcEv R G2 sz (.slice (.mu r2) 0 n2 c2) = some (C2, n2) := by
    have hb : (G2[r2]?).bind AO.content = some C2 := by rcases hk2 with ⟨_, h⟩ | ⟨_, h⟩ <;> rw [h] <;> rfl
    simp only [srcEv, readN, hb]
    rw [if_pos (by omega), List.drop_zero, ← hc2, List.take_length]; rfl
  have hall : (C1 ++ C2).all AV.oneCell = true := by rw [List.all_append, h1.one, h2.one]; rfl
  have hlC : (C1 ++ C2).length = (n1 + n2) * sz := by rw [List.length_append, hc1, hc2, Nat.add_mul]
  have hpos : 0 < n2 * sz := Nat.mul_pos hn2 (Nat.pos_of_ne_zero hsz)
  rcases hk1 with ⟨rfl, hg⟩ | ⟨rfl, hg⟩
  · refine ⟨.slice (.mu G2.length) 0 (n1 + n2) (.opn 0), G2.set r1 .dead ++ [.row (C1 ++ C2) ty sz], ?_, ?_⟩
    · simp only [appendEv, hsrc]
      rw [if_pos ⟨hfit, hsz, hby, h2.one⟩, hold, hg]
      simp only
      rw [if_pos ⟨trivial, trivial, by omega, by omega⟩, if_neg (by rw [Nat.add_mul]; omega), List.drop_zero, List.take_of_length_le (by omega)]
    · refine ⟨fun i hi => ?_, by simp; omega, hlC, hall, G2.length, .opn 0, rfl, by omega, .inl ⟨rfl, by rw [List.getElem?_append_right (by simp)]; simp⟩⟩
      rw [List.getElem?_append_left (by simp; omega), List.getElem?_set_ne (by omega), h2.old i (by omega), h1.old i hi]
  · refine ⟨.slice (.mu G2.length) 0 (n1 + n2) (.opn 0), G2 ++ [.row (C1 ++ C2) ty sz], ?_, ?_⟩
    · simp only [appendEv, hsrc]
      rw [if_pos ⟨hfit, hsz, hby, h2.one⟩, if_neg (by omega)]
      simp only [readN, hold, hg, Option.bind_some, AO.content, Nat.zero_add, List.drop_zero]
      rw [if_pos (by omega), List.take_of_length_le (by omega)]
    · refine ⟨fun i hi => ?_, by simp; omega, hlC, hall, G2.length, .opn 0, rfl, by omega, .inl ⟨rfl, by simp⟩⟩
      rw [List.getElem?_append_left (by omega), h2.old i (by omega), h1.old i hi]
def paL : List PA → List AV
  | [] => []
  | p :: l => p.cells ++ paL l
theorem paL_app : ∀ (a b : List PA), paL (a ++ b) = paL a ++ paL b
  | [], b => rfl
  | p :: a, b => by simp [paL, paL_app a b]
theorem paV_paL : ∀ (N : List ND), paV N = paL (N.map ND.pa)
  | [] => rfl
  | x :: N => by simp [paV, paL, ND.pane, ND.pa, PA.cells, paV_paL N]
theorem rpanes_ok : ∀ {D : DT} {H : AH}, D.shape.sides → HasD H D → D.shape.panes.length ≤ 1000 → ACalls Try.prog R 43 [.ptr (.mu D.ad) 0] H fun v G => GRow 32 3 H v G (paL D.shape.panes) D.shape.panes.length
  | .leaf x p, H, _, h, _ => by
    refine ACalls.of_wpE Fns.ok43 (by simp [Fns.a43]) ?_
    simp only [HasD, rleaf] at h
    simp [Fns.a43, DT.ad, h, AO.content, readN, splice, zerosEv, fillA]
    exact ⟨fun i hi => List.getElem?_append_left hi, by simp, rfl, rfl, H.length, .known 1, rfl, Nat.le_refl _, .inr ⟨rfl, by simp [paL, PT.panes, DT.shape, PA.cells]⟩⟩
  | .split x sd sh a b, H, ⟨s1, _, _, sa, sb⟩, ⟨h, ha, hb⟩, hl => by
    refine ACalls.of_wpE Fns.ok43 (by simp [Fns.a43]) ?_
    have s0 : ¬ sd = 0 := by omega
    simp only [rsplit] at h
    simp only [DT.shape, PT.panes, List.length_append] at hl ⊢
    have pb := panes_size b.shape
    simp [Fns.a43, DT.ad, h, AO.content, s0]
    refine AWp.sched [0, 1, 2, 3, 5, 6, 7, 8, 4, 9, 10, 11] Fns.mixed (by decide +kernel) ?_
    simp [h, AO.content, readN]
    refine (rpanes_ok sa ha (by omega)).mono ?_
    intro v1 G1 q1
    have h1 : G1[x]? = _ := (q1.old x (List.getElem?_eq_some_iff.1 h).1).trans h
    simp [recheck, h, h1, AO.content, readN]
    refine (rpanes_ok sb (hb.frame fun m hm => q1.old m (hb.lt m hm)) (by omega)).mono ?_
    intro v2 G2 q2
    obtain ⟨v3, G3, e3, q3⟩ := grow_app (R := R) (by' := 24) q1 q2 (by omega) (by decide) (by decide) (by omega)
    simp [recheck, e3]
    rw [paL_app]; exact q3
/-- A gathered slice, where it lies. -/
structure RowA (ty sz : Nat) (G : AH) (r : Nat) (v : AV) (C : List AV) (n : Nat) : Prop where
  cl : C.length = n * sz
  one : C.all AV.oneCell = true
  row : ∃ cp, v = .slice (.mu r) 0 n cp ∧ ((cp = .opn 0 ∧ G[r]? = some (.row C ty sz)) ∨ (cp = .known n ∧ G[r]? = some (.cells C ty)))
theorem RowA.keep {ty sz : Nat} {G G' : AH} {r : Nat} {v : AV} {C : List AV} {n : Nat} (h : RowA ty sz G r v C n) (hk : G'[r]? = G[r]?) : RowA ty sz G' r v C n := by
  obtain ⟨cp, h1, h2⟩ := h.row
  exact ⟨h.cl, h.one, cp, h1, by rw [hk]; exact h2⟩
theorem RowA.lt {ty sz : Nat} {G : AH} {r : Nat} {v : AV} {C : List AV} {n : Nat} (h : RowA ty sz G r v C n) : r < G.length := by
  obtain ⟨cp, h1, h2⟩ := h.row
  rcases h2 with ⟨_, h⟩ | ⟨_, h⟩ <;> exact (List.getElem?_eq_some_iff.1 h).1
theorem RowA.len {P : Program} {ty sz : Nat} {G G' : AH} {r : Nat} {v : AV} {C : List AV} {n : Nat} (h : RowA ty sz G r v C n) : (AOp.lenL (.t 0)).eval P R (fun _ => v) G' = some (.int .i64 n, G') := by
  obtain ⟨cp, rfl, _⟩ := h.row
  rfl
theorem GRow.rowA {ty sz : Nat} {H G : AH} {v : AV} {C : List AV} {n : Nat} (h : GRow ty sz H v G C n) : ∃ r, H.length ≤ r ∧ RowA ty sz G r v C n := by
  obtain ⟨r, cp, h1, h2, h3⟩ := h.row
  exact ⟨r, h2, h.cl, h.one, cp, h1, h3⟩
theorem rowA_app {ty sz by' : Nat} {G : AH} {r1 r2 : Nat} {v1 v2 : AV} {C1 C2 : List AV} {n1 n2 : Nat} (h1 : RowA ty sz G r1 v1 C1 n1) (h2 : RowA ty sz G r2 v2 C2 n2) (hn2 : 0 < n2) (hsz : sz ≠ 0) (hby : by' ≠ 0) (hfit : (n1 + n2) * by' ≤ 140737488355328) :
    ∃ v3 G3, appendEv R G ty sz by' v1 v2 = some (v3, G3) ∧ RowA ty sz G3 G.length v3 (C1 ++ C2) (n1 + n2) ∧ G3.length = G.length + 1 ∧ ∀ i, i < G.length → i ≠ r1 → G3[i]? = G[i]? := by
  have hl1 := h1.lt
  have hc1 := h1.cl
  have hc2 := h2.cl
  obtain ⟨c1, rfl, hk1⟩ := h1.row
  obtain ⟨c2, rfl, hk2⟩ := h2.row
  have hsrc : srcEv R G sz (.slice (.mu r2) 0 n2 c2) = some (C2, n2) := by
    have hb : (G[r2]?).bind AO.content = some C2 := by rcases hk2 with ⟨_, h⟩ | ⟨_, h⟩ <;> rw [h] <;> rfl
    simp only [srcEv, readN, hb]
    rw [if_pos (by omega), List.drop_zero, ← hc2, List.take_length]; rfl
  have hall : (C1 ++ C2).all AV.oneCell = true := by rw [List.all_append, h1.one, h2.one]; rfl
  have hlC : (C1 ++ C2).length = (n1 + n2) * sz := by rw [List.length_append, hc1, hc2, Nat.add_mul]
  have hpos : 0 < n2 * sz := Nat.mul_pos hn2 (Nat.pos_of_ne_zero hsz)
  rcases hk1 with ⟨rfl, hg⟩ | ⟨rfl, hg⟩
  · refine ⟨.slice (.mu G.length) 0 (n1 + n2) (.opn 0), G.set r1 .dead ++ [.row (C1 ++ C2) ty sz], ?_, ?_⟩
    · simp only [appendEv, hsrc]
      rw [if_pos ⟨hfit, hsz, hby, h2.one⟩, hg]
      simp only
      rw [if_pos ⟨trivial, trivial, by omega, by omega⟩, if_neg (by rw [Nat.add_mul]; omega), List.drop_zero, List.take_of_length_le (by omega)]
    · refine ⟨⟨hlC, hall, .opn 0, rfl, .inl ⟨rfl, by rw [List.getElem?_append_right (by simp)]; simp⟩⟩, by simp, fun i hi hne => ?_⟩
      rw [List.getElem?_append_left (by simp; omega), List.getElem?_set_ne (Ne.symm hne)]
  · refine ⟨.slice (.mu G.length) 0 (n1 + n2) (.opn 0), G ++ [.row (C1 ++ C2) ty sz], ?_, ?_⟩
    · simp only [appendEv, hsrc]
      rw [if_pos ⟨hfit, hsz, hby, h2.one⟩, if_neg (by omega)]
      simp only [readN, hg, Option.bind_some, AO.content, Nat.zero_add, List.drop_zero]
      rw [if_pos (by omega), List.take_of_length_le (by omega)]
    · exact ⟨⟨hlC, hall, .opn 0, rfl, .inl ⟨rfl, by simp⟩⟩, by simp, fun i hi hne => List.getElem?_append_left hi⟩
end Go.Proofs.Ytbcfhiohdamcjaa.Tr
namespace Go.Proofs.Ytbcfhiohdamcjaa.Tr
open Go Go.RowKit Am
set_option maxRecDepth 100000
set_option maxHeartbeats 1000000
set_option linter.unusedSimpArgs false
set_option linter.unusedVariables false
attribute [-simp] Am.binEv Am.intBin Am.read1
attribute [local simp] binEv_lss binEv_leq binEv_gtr binEv_geq binEv_eql binEv_neq binEv_add binEv_sub binEv_mul read1_ro read1_mu
variable {R : Ro}
open PT DT
def RefOut (H : AH) (w : Nat) (D : DT) (r : Int × PT) (v : AV) (G : AH) : Prop :=
  v = .int .i64 r.1 ∧ H.length ≤ G.length ∧ (∀ m, m < H.length → m ∉ D.ads → G[m]? = H[m]?) ∧ ∃ D', RT G w D' ∧ D'.shape = r.2 ∧ ∀ m ∈ D'.ads, m ∈ D.ads ∨ H.length ≤ m
theorem RT.out {H : AH} {w : Nat} {D : DT} (h : RT H w D) : w ∉ D.ads := fun hm => by
  obtain ⟨c, hc⟩ := h.has.kind w hm
  rw [h.hw] at hc
  simp at hc
theorem RefOut.same {H G : AH} {w : Nat} {D : DT} {c : Int} (h : RT H w D) (hl : H.length ≤ G.length) (hk : ∀ m, m < H.length → G[m]? = H[m]?) : RefOut H w D (c, D.shape) (.int .i64 c) G :=
  ⟨rfl, hl, fun m hm _ => hk m hm, D, ⟨by rw [hk w (List.getElem?_eq_some_iff.1 h.hw).1]; exact h.hw, h.has.frame fun m hm => hk m (h.has.lt m hm), h.nodup⟩, rfl, fun m hm => .inl hm⟩
theorem rnew_ok (p : PA) (H : AH) : ACalls Try.prog R 24 [p.av] H fun v G => v = .ptr (.mu (H.length + 2)) 0 ∧ G = H ++ [.cells p.cells 32, .cells (rleaf p) 86, .cells [.ptr (.mu (H.length + 1)) 0] 88] := by
  refine ACalls.of_wpE Fns.ok24 (by simp [Fns.a24]) ?_
  simp [Fns.a24, PA.av, PA.cells, AO.content, readN, fillA, splice, zerosEv, rleaf]
theorem rnew_rt (p : PA) (H : AH) : RT (H ++ [.cells p.cells 32, .cells (rleaf p) 86, .cells [.ptr (.mu (H.length + 1)) 0] 88]) (H.length + 2) (.leaf (H.length + 1) p) :=
  ⟨by simp [DT.ad], by simp [HasD], by simp [DT.ads]⟩
/-! ### A leaf put in -/
def DT.putF (p : PA) : DT → DT → DT
  | .leaf x r, E => if r = p then E else .leaf x r
  | .split x s h a b, E => match a.find p with
    | some _ => .split x s h (a.putF p E) b
    | none => .split x s h a (b.putF p E)
theorem nodup_split {x : Nat} {A B : List Nat} (h : (x :: (A ++ B)).Nodup) : x ∉ A ∧ x ∉ B ∧ A.Nodup ∧ B.Nodup ∧ ∀ m ∈ A, m ∉ B := by
  rw [List.nodup_cons, List.nodup_append] at h
  obtain ⟨h1, h2, h3, h4⟩ := h
  rw [List.mem_append, not_or] at h1
  exact ⟨h1.1, h1.2, h2, h3, fun m hm hb => h4 m hm m hb rfl⟩
theorem putF_ad {p : PA} {E : DT} : ∀ {D : DT} {y : Nat}, D.find p = some y → E.ad = y → (D.putF p E).ad = D.ad
  | .leaf x r, y, hf, hE => by
    simp only [DT.find] at hf
    split at hf
    · rename_i e; cases hf; simp only [DT.putF, e, if_true]; exact hE
    · cases hf
  | .split x s h a b, y, hf, hE => by
    simp only [DT.putF]; split <;> rfl
theorem putF_ads {p : PA} {E : DT} : ∀ {D : DT}, ∀ m ∈ (D.putF p E).ads, m ∈ D.ads ∨ m ∈ E.ads
  | .leaf x r, m, hm => by
    simp only [DT.putF] at hm
    split at hm
    · exact .inr hm
    · exact .inl hm
  | .split x s h a b, m, hm => by
    simp only [DT.putF] at hm
    split at hm
    · simp only [DT.ads, List.mem_cons, List.mem_append] at hm ⊢
      rcases hm with hm | hm | hm
      · exact .inl (.inl hm)
      · rcases putF_ads m hm with h | h
        · exact .inl (.inr (.inl h))
        · exact .inr h
      · exact .inl (.inr (.inr hm))
    · simp only [DT.ads, List.mem_cons, List.mem_append] at hm ⊢
      rcases hm with hm | hm | hm
      · exact .inl (.inl hm)
      · exact .inl (.inr (.inl hm))
      · rcases putF_ads m hm with h | h
        · exact .inl (.inr (.inr h))
        · exact .inr h
theorem putF_has {H G : AH} {p : PA} {E : DT} : ∀ {D : DT} {y : Nat}, HasD H D → D.ads.Nodup → D.find p = some y → E.ad = y → HasD G E → (∀ m ∈ D.ads, m ≠ y → G[m]? = H[m]?) → HasD G (D.putF p E)
  | .leaf x r, y, h, hn, hf, hE, hG, hk => by
    simp only [DT.find] at hf
    split at hf
    · rename_i e; simp only [DT.putF, e, if_true]; exact hG
    · cases hf
  | .split x s hh a b, y, ⟨h1, h2, h3⟩, hn, hf, hE, hG, hk => by
    simp only [DT.ads] at hn hk
    obtain ⟨n1, n2, n3, n4, n5⟩ := nodup_split hn
    simp only [DT.find] at hf
    cases ha : a.find p with
    | some z =>
      rw [ha] at hf
      cases hf
      have hya := find_ads ha
      simp only [DT.putF, ha]
      refine ⟨?_, putF_has h2 n3 ha hE hG fun m hm hne => hk m (by simp [hm]) hne, h3.frame fun m hm => hk m (by simp [hm]) fun e => n5 y hya (e ▸ hm)⟩
      rw [putF_ad ha hE, hk x (by simp) fun e => n1 (by rw [e]; exact hya)]; exact h1
    | none =>
      rw [ha] at hf
      have hyb := find_ads hf
      simp only [DT.putF, ha]
      refine ⟨?_, h2.frame fun m hm => hk m (by simp [hm]) fun e => n5 m hm (e ▸ hyb), putF_has h3 n4 hf hE hG fun m hm hne => hk m (by simp [hm]) hne⟩
      rw [putF_ad hf hE, hk x (by simp) fun e => n2 (by rw [e]; exact hyb)]; exact h1
theorem putF_nodup {p : PA} {E : DT} : ∀ {D : DT} {y : Nat}, D.ads.Nodup → D.find p = some y → E.ads.Nodup → (∀ m ∈ E.ads, m ∈ D.ads → m = y) → (D.putF p E).ads.Nodup
  | .leaf x r, y, hn, hf, hE, hd => by
    simp only [DT.find] at hf
    split at hf
    · rename_i e; simp only [DT.putF, e, if_true]; exact hE
    · cases hf
  | .split x s hh a b, y, hn, hf, hE, hd => by
    simp only [DT.ads] at hn hd
    obtain ⟨n1, n2, n3, n4, n5⟩ := nodup_split hn
    simp only [DT.find] at hf
    cases ha : a.find p with
    | some z =>
      rw [ha] at hf
      cases hf
      have hya := find_ads ha
      have ih := putF_nodup n3 ha hE fun m hm hma => hd m hm (by simp [hma])
      simp only [DT.putF, ha, DT.ads]
      rw [List.nodup_cons, List.nodup_append, List.mem_append, not_or]
      refine ⟨⟨fun hm => ?_, n2⟩, ih, n4, fun m hm m' hm' e => ?_⟩
      · rcases putF_ads x hm with h | h
        · exact n1 h
        · have := hd x h (by simp); exact n1 (by rw [this]; exact hya)
      · subst e
        rcases putF_ads m hm with h | h
        · exact n5 m h hm'
        · have := hd m h (by simp [hm']); subst this; exact n5 m hya hm'
    | none =>
      rw [ha] at hf
      have hyb := find_ads hf
      have ih := putF_nodup n4 hf hE fun m hm hma => hd m hm (by simp [hma])
      simp only [DT.putF, ha, DT.ads]
      rw [List.nodup_cons, List.nodup_append, List.mem_append, not_or]
      refine ⟨⟨n1, fun hm => ?_⟩, n3, ih, fun m hm m' hm' e => ?_⟩
      · rcases putF_ads x hm with h | h
        · exact n2 h
        · have := hd x h (by simp); exact n2 (by rw [this]; exact hyb)
      · subst e
        rcases putF_ads m hm' with h | h
        · exact n5 m hm h
        · have := hd m h (by simp [hm]); subst this; exact n5 m hm hyb
theorem putF_shape {p q : PA} {sd sh : Int} {x y z : Nat} : ∀ {D : DT}, (D.putF p (.split x sd sh (.leaf y p) (.leaf z q))).shape = D.shape.splitA p q sd sh
  | .leaf w r => by
    simp only [DT.putF, DT.shape, PT.splitA]
    split <;> rfl
  | .split w s h a b => by
    have := find_pos (p := p) (D := a)
    simp only [DT.putF, DT.shape, PT.splitA]
    cases ha : a.find p with
    | some u =>
      cases hp : a.shape.pos p with
      | some i => simp only [DT.shape]; rw [putF_shape]
      | none => rw [this.2 hp] at ha; cases ha
    | none => rw [this.1 ha]; simp only [DT.shape]; rw [putF_shape]
theorem find_leaf {H : AH} {p : PA} : ∀ {D : DT} {y : Nat}, HasD H D → D.find p = some y → H[y]? = some (.cells (rleaf p) 86)
  | .leaf x r, y, h, hf => by
    simp only [DT.find] at hf
    split at hf
    · rename_i e; cases hf; subst e; exact h
    · cases hf
  | .split x s hh a b, y, ⟨h1, h2, h3⟩, hf => by
    simp only [DT.find] at hf
    split at hf
    · rename_i z hz; cases hf; exact find_leaf h2 hz
    · exact find_leaf h3 hf
theorem rsplit_ok {H : AH} {w : Nat} {D : DT} (h : RT H w D) (g : Good D.shape) (p q : PA) (side share : Int) :
    ACalls Try.prog R 25 [.ptr (.mu w) 0, p.av, q.av, .int .i64 side, .int .i64 share] H (RefOut H w D (D.shape.splitR p q side share)) := by
  refine ACalls.of_wpE Fns.ok25 (by simp [Fns.a25]) ?_
  obtain ⟨H1, hH1⟩ : ∃ H1, H1 = H ++ [AO.cells p.cells 32, AO.cells q.cells 32] := ⟨_, rfl⟩
  have hp : H1[H.length]? = some (.cells p.cells 32) := by rw [hH1]; simp
  have hq : H1[H.length + 1]? = some (.cells q.cells 32) := by rw [hH1]; simp
  have hT : RT H1 w D := by rw [hH1]; exact h.app _
  have hl1 : H1.length = H.length + 2 := by rw [hH1]; simp
  have hk1 : ∀ m, m < H.length → H1[m]? = H[m]? := fun m hm => by rw [hH1]; exact List.getElem?_append_left hm
  have hfn := find_ok (R := R) p g.sides hT.has
  have hhs := rhas_ok (R := R) hT g.sides q
  have hpn := rpanes_ok (R := R) g.sides hT.has (by have := g.le; omega)
  have hw := hT.hw
  have hle := g.le
  have hwo := h.out
  simp only [PA.av, PA.cells] at hfn hhs hp hq hH1
  simp [Fns.a25, PA.av, PA.cells]
  rw [← hH1]
  refine AWp.sched [0, 1, 2, 3, 4, 5, 6] Fns.mixed (by decide +kernel) ?_
  simp [hw, hp, AO.content, readN]
  refine hfn.mono ?_
  rintro v G ⟨rfl, rfl⟩
  have hfp := find_pos (p := p) (D := D)
  have same : ∀ c G', D.shape.splitR p q side share = (c, D.shape) → G.length ≤ G'.length → (∀ m, m < G.length → G'[m]? = G[m]?) → RefOut H w D (D.shape.splitR p q side share) (.int .i64 c) G' := fun c G' hc hl hk => by
    rw [hc]; exact RefOut.same h (by omega) fun m hm => by rw [hk m (by omega), hk1 m hm]
  cases hf : D.find p with
  | none =>
    simp [recheck, hw, hp, AO.content, readN, optP, eqEv]
    exact same 4 G (by unfold PT.splitR; rw [if_pos (hfp.1 hf)]) (Nat.le_refl _) fun _ _ => rfl
  | some y =>
  have hn : D.shape.pos p ≠ none := fun e => by rw [hfp.2 e] at hf; cases hf
  have s0 : D.shape.splitR p q side share = if D.shape.pos q ≠ none then (5, D.shape) else if ¬ (side = 1 ∨ side = 2) ∨ share < 1 ∨ 99 < share then (1, D.shape) else if D.shape.panes.length = 16 then (6, D.shape) else (0, D.shape.splitA p q side share) := by
    unfold PT.splitR; rw [if_neg hn]
  simp [recheck, hw, hp, hq, AO.content, readN, optP, eqEv]
  refine hhs.mono ?_
  rintro v G ⟨rfl, rfl⟩
  by_cases c1 : D.shape.pos q = none
  case neg =>
    rw [if_pos c1] at s0
    simp [c1]
    exact same 5 G s0 (Nat.le_refl _) fun _ _ => rfl
  rw [if_neg (by simpa using c1)] at s0
  by_cases hc : ¬ (side = 1 ∨ side = 2) ∨ share < 1 ∨ 99 < share
  · rw [if_pos hc] at s0
    have r0 := same 1 G s0 (Nat.le_refl _) fun _ _ => rfl
    by_cases d1 : side < 1
    · simp [c1, d1]; exact r0
    · by_cases d2 : 2 < side
      · simp [c1, d1, d2]; exact r0
      · by_cases d3 : share < 1
        · simp [c1, d1, d2, d3]; exact r0
        · have d4 : 99 < share := by omega
          simp [c1, d1, d2, d3, d4]; exact r0
  rw [if_neg hc] at s0
  have d1 : ¬ side < 1 := by omega
  have d2 : ¬ 2 < side := by omega
  have d3 : ¬ share < 1 := by omega
  have d4 : ¬ 99 < share := by omega
  simp [c1, d1, d2, d3, d4, hw, AO.content]
  refine hpn.mono ?_
  intro v1 G1 q1
  obtain ⟨r1, hr1, z1⟩ := q1.rowA
  have hlen1 := z1.len (P := Try.prog) (R := R) (G' := G1)
  simp only [AOp.eval, X.ev] at hlen1
  have hl2 := q1.len
  by_cases c2 : D.shape.panes.length = 16
  · rw [if_pos c2] at s0
    simp [hlen1, c2]
    exact same 6 G1 s0 hl2 fun m hm => q1.old m hm
  rw [if_neg c2] at s0
  have c3 : ¬ (D.shape.panes.length : Int) = 16 := by omega
  have hp1 : G1[H.length]? = _ := (q1.old _ (by omega)).trans hp
  have hq1 : G1[H.length + 1]? = _ := (q1.old _ (by omega)).trans hq
  have hy := find_leaf hT.has hf
  have hylt := hT.has.lt y (find_ads hf)
  have hylt' := h.has.lt y (find_ads hf)
  have hy1 : G1[y]? = _ := (q1.old y hylt).trans hy
  rw [s0]
  simp only [rleaf] at hy1
  have fp : ∀ X : AH, (G1 ++ X)[H.length]? = _ := fun X => get_app hp1
  have fq : ∀ X : AH, (G1 ++ X)[H.length + 1]? = _ := fun X => get_app hq1
  have fy : ∀ X : AH, (G1 ++ X)[y]? = _ := fun X => get_app hy1
  simp [hlen1, c3, fp, fq, fy, hp1, hq1, hy1, AO.content, AO.withContent, readN, writeN, fillA, splice]
  obtain ⟨E, hE⟩ : ∃ E : DT, E = .split y side share (.leaf G1.length p) (.leaf (G1.length + 1) q) := ⟨_, rfl⟩
  obtain ⟨G2, hG2⟩ : ∃ G2, G2 = (G1 ++ [AO.cells (rleaf p) 86, AO.cells (rleaf q) 86]).set y (.cells (rsplit side share G1.length (G1.length + 1)) 86) := ⟨_, rfl⟩
  have hk2 : ∀ m, m < G.length → m ≠ y → G2[m]? = G[m]? := fun m hm hne => by
    rw [hG2, List.getElem?_set_ne (Ne.symm hne), List.getElem?_append_left (by omega)]; exact q1.old m hm
  have hl3 : G2.length = G1.length + 2 := by rw [hG2]; simp
  have hEh : HasD G2 E := by
    rw [hE]
    refine ⟨?_, ?_, ?_⟩
    · rw [hG2]; simp only [DT.ad]; rw [List.getElem?_set_self (by simp; omega)]
    · simp only [HasD]; rw [hG2, List.getElem?_set_ne (by omega)]; simp
    · simp only [HasD]; rw [hG2, List.getElem?_set_ne (by omega)]; simp
  have hEa : E.ad = y := by rw [hE]; rfl
  have hEm : ∀ m ∈ E.ads, m = y ∨ m = G1.length ∨ m = G1.length + 1 := fun m hm => by
    rw [hE] at hm; simpa [DT.ads] using hm
  have hgoal : RefOut H w D (0, D.shape.splitA p q side share) (.int .i64 0) G2 := by
    refine ⟨rfl, by omega, fun m hm hnm => by rw [hk2 m (by omega) fun e => hnm (e ▸ find_ads hf), hk1 m hm], D.putF p E, ⟨?_, putF_has hT.has h.nodup hf hEa hEh fun m hm hne => hk2 m (hT.has.lt m hm) hne, putF_nodup h.nodup hf ?_ fun m hm hmd => ?_⟩, by rw [hE]; exact putF_shape, fun m hm => ?_⟩
    · rw [putF_ad hf hEa, hk2 w (List.getElem?_eq_some_iff.1 hw).1 fun e => hwo (e ▸ find_ads hf)]; exact hw
    · rw [hE]; simp [DT.ads]; omega
    · rcases hEm m hm with e | e | e
      · exact e
      · have := hT.has.lt m hmd; omega
      · have := hT.has.lt m hmd; omega
    · rcases putF_ads m hm with e | e
      · exact .inl e
      · rcases hEm m e with e | e | e
        · exact .inl (e ▸ find_ads hf)
        · exact .inr (by omega)
        · exact .inr (by omega)
  have hlast : (G1 ++ [AO.cells [.int .i64 0, .int .i64 0, .nilptr, .nilptr, .int .i64 p.a, .int .i64 p.b, .int .i64 p.c] 86, AO.cells [.int .i64 0, .int .i64 0, .nilptr, .nilptr, .int .i64 q.a, .int .i64 q.b, .int .i64 q.c] 86]).set y (.cells [.int .i64 side, .int .i64 share, .ptr (.mu G1.length) 0, .ptr (.mu (G1.length + 1)) 0, .int .i64 0, .int .i64 0, .int .i64 0] 86) = G2 := by rw [hG2]; rfl
  rw [hlast]
  exact hgoal
end Go.Proofs.Ytbcfhiohdamcjaa.Tr
namespace Go.Proofs.Ytbcfhiohdamcjaa.Tr
open Go Go.RowKit Am
set_option maxRecDepth 100000
set_option maxHeartbeats 1000000
set_option linter.unusedSimpArgs false
set_option linter.unusedVariables false
attribute [-simp] Am.binEv Am.intBin Am.read1
attribute [local simp] binEv_lss binEv_leq binEv_gtr binEv_geq binEv_eql binEv_neq binEv_add binEv_sub binEv_mul read1_ro read1_mu
variable {R : Ro}
open PT DT
/-! ### Swap -/
def DT.setA (y : Nat) (q : PA) : DT → DT
  | .leaf x r => .leaf x (if x = y then q else r)
  | .split x s h a b => .split x s h (a.setA y q) (b.setA y q)
def DT.lvs : DT → List (Nat × PA)
  | .leaf x r => [(x, r)]
  | .split _ _ _ a b => a.lvs ++ b.lvs
theorem setA_ad (y : Nat) (q : PA) (D : DT) : (D.setA y q).ad = D.ad := by cases D <;> rfl
theorem setA_ads (y : Nat) (q : PA) : ∀ D : DT, (D.setA y q).ads = D.ads
  | .leaf _ _ => rfl
  | .split _ _ _ a b => by simp [DT.setA, DT.ads, setA_ads y q a, setA_ads y q b]
theorem lvs_panes : ∀ D : DT, D.lvs.map (·.2) = D.shape.panes
  | .leaf _ _ => rfl
  | .split _ _ _ a b => by simp [DT.lvs, DT.shape, panes, lvs_panes a, lvs_panes b]
theorem lvs_ads : ∀ D : DT, (D.lvs.map (·.1)).Sublist D.ads
  | .leaf _ _ => List.Sublist.refl _
  | .split x _ _ a b => by
    simp only [DT.lvs, DT.ads, List.map_append]
    exact ((lvs_ads a).append (lvs_ads b)).cons x
theorem find_lvs {p : PA} : ∀ {D : DT} {y : Nat}, D.find p = some y → (y, p) ∈ D.lvs
  | .leaf x r, y, h => by
    simp only [DT.find] at h
    split at h
    · rename_i e; cases h; subst e; simp [DT.lvs]
    · cases h
  | .split x _ _ a b, y, h => by
    simp only [DT.find] at h
    split at h
    · rename_i z hz; cases h; simp [DT.lvs, find_lvs hz]
    · simp [DT.lvs, find_lvs h]
theorem inj_nodup {α β : Type} (f : α → β) : ∀ {l : List α}, (l.map f).Nodup → ∀ {a b : α}, a ∈ l → b ∈ l → f a = f b → a = b
  | [], _, a, b, h, _, _ => by cases h
  | x :: l, hn, a, b, ha, hb, he => by
    rw [List.map_cons, List.nodup_cons] at hn
    rcases List.mem_cons.1 ha with h1 | h1
    · rcases List.mem_cons.1 hb with h2 | h2
      · rw [h1, h2]
      · exact absurd (show f x ∈ l.map f from List.mem_map.2 ⟨b, h2, by rw [← he, h1]⟩) hn.1
    · rcases List.mem_cons.1 hb with h2 | h2
      · exact absurd (show f x ∈ l.map f from List.mem_map.2 ⟨a, h1, by rw [he, h2]⟩) hn.1
      · exact inj_nodup f hn.2 h1 h2 he
theorem setA_shape {p q : PA} {ya yb : Nat} : ∀ {D : DT}, (∀ x r, (x, r) ∈ D.lvs → (x = ya ↔ r = p) ∧ (x = yb ↔ r = q)) → ((D.setA ya q).setA yb p).shape = D.shape.mapP (swp p q)
  | .leaf x r, h => by
    obtain ⟨h1, h2⟩ := h x r (by simp [DT.lvs])
    simp only [DT.setA, DT.shape, PT.mapP, swp]
    congr 1
    by_cases e1 : x = ya
    · have r1 := h1.1 e1
      by_cases e2 : x = yb
      · have r2 := h2.1 e2
        rw [if_pos e2, if_pos r1, ← r1, r2]
      · rw [if_neg e2, if_pos e1, if_pos r1]
    · have r1 : ¬ r = p := fun e => e1 (h1.2 e)
      by_cases e2 : x = yb
      · have r2 := h2.1 e2
        rw [if_pos e2, if_neg r1, if_pos r2]
      · have r2 : ¬ r = q := fun e => e2 (h2.2 e)
        rw [if_neg e2, if_neg e1, if_neg r1, if_neg r2]
  | .split x s hh a b, h => by
    simp only [DT.setA, DT.shape, PT.mapP]
    rw [setA_shape fun x r hx => h x r (by simp [DT.lvs, hx]), setA_shape fun x r hx => h x r (by simp [DT.lvs, hx])]
theorem lvs_leaf {H : AH} : ∀ {D : DT}, HasD H D → ∀ {y : Nat} {r : PA}, (y, r) ∈ D.lvs → H[y]? = some (.cells (rleaf r) 86)
  | .leaf x s, h, y, r, hm => by
    simp [DT.lvs] at hm
    obtain ⟨rfl, rfl⟩ := hm
    exact h
  | .split x s hh a b, ⟨_, h2, h3⟩, y, r, hm => by
    simp only [DT.lvs, List.mem_append] at hm
    rcases hm with hm | hm
    · exact lvs_leaf h2 hm
    · exact lvs_leaf h3 hm
theorem setA_has {H G : AH} {y : Nat} {r0 q : PA} (hy : H[y]? = some (.cells (rleaf r0) 86)) (hg : G[y]? = some (.cells (rleaf q) 86)) : ∀ {D : DT}, HasD H D → (∀ m ∈ D.ads, m ≠ y → G[m]? = H[m]?) → HasD G (D.setA y q)
  | .leaf x r, h, hk => by
    simp only [DT.setA, HasD] at h ⊢
    by_cases e : x = y
    · rw [if_pos e, e]; exact hg
    · rw [if_neg e, hk x (by simp [DT.ads]) e]; exact h
  | .split x s hh a b, ⟨h1, h2, h3⟩, hk => by
    refine ⟨?_, setA_has hy hg h2 fun m hm => hk m (by simp [DT.ads, hm]), setA_has hy hg h3 fun m hm => hk m (by simp [DT.ads, hm])⟩
    have hne : x ≠ y := fun e => by
      rw [e, hy] at h1
      simp [rleaf, rsplit] at h1
    rw [setA_ad, setA_ad, hk x (by simp [DT.ads]) hne]; exact h1
theorem rswap_ok {H : AH} {w : Nat} {D : DT} (h : RT H w D) (g : Good D.shape) (p q : PA) :
    ACalls Try.prog R 29 [.ptr (.mu w) 0, p.av, q.av] H (RefOut H w D (D.shape.swapR p q)) := by
  refine ACalls.of_wpE Fns.ok29 (by simp [Fns.a29]) ?_
  obtain ⟨H1, hH1⟩ : ∃ H1, H1 = H ++ [AO.cells p.cells 32, AO.cells q.cells 32] := ⟨_, rfl⟩
  have hp : H1[H.length]? = some (.cells p.cells 32) := by rw [hH1]; simp
  have hq : H1[H.length + 1]? = some (.cells q.cells 32) := by rw [hH1]; simp
  have hT : RT H1 w D := by rw [hH1]; exact h.app _
  have hl1 : H1.length = H.length + 2 := by rw [hH1]; simp
  have hk1 : ∀ m, m < H.length → H1[m]? = H[m]? := fun m hm => by rw [hH1]; exact List.getElem?_append_left hm
  have hfp := find_ok (R := R) p g.sides hT.has
  have hfq := find_ok (R := R) q g.sides hT.has
  have hw := hT.hw
  have hwo := h.out
  simp only [PA.av, PA.cells] at hfp hfq hp hq hH1
  simp [Fns.a29, PA.av, PA.cells]
  rw [← hH1]
  refine AWp.sched [0, 1, 2, 3, 4, 6, 7, 8, 9, 10, 5, 11, 12, 13] Fns.mixed (by decide +kernel) ?_
  simp [hw, hp, hq, AO.content, readN]
  refine hfp.mono ?_
  rintro v G ⟨rfl, rfl⟩
  simp [recheck, hw, hp, hq, AO.content, readN]
  refine hfq.mono ?_
  rintro v G ⟨rfl, rfl⟩
  have hnp := find_pos (p := p) (D := D)
  have hnq := find_pos (p := q) (D := D)
  have same : D.shape.swapR p q = (4, D.shape) → RefOut H w D (D.shape.swapR p q) (.int .i64 4) G := fun hc => by
    rw [hc]; exact RefOut.same h (by omega) fun m hm => hk1 m hm
  cases hf : D.find p with
  | none =>
    simp [recheck, hw, hp, hq, AO.content, readN, optP, eqEv]
    exact same (by unfold PT.swapR; rw [if_pos (.inl (hnp.1 hf))])
  | some ya =>
  cases hf2 : D.find q with
  | none =>
    simp [recheck, hw, hp, hq, AO.content, readN, optP, eqEv]
    exact same (by unfold PT.swapR; rw [if_pos (.inr (hnq.1 hf2))])
  | some yb =>
  have n1 : D.shape.pos p ≠ none := fun e => by rw [hnp.2 e] at hf; cases hf
  have n2 : D.shape.pos q ≠ none := fun e => by rw [hnq.2 e] at hf2; cases hf2
  have s0 : D.shape.swapR p q = (0, D.shape.mapP (swp p q)) := by unfold PT.swapR; rw [if_neg (by simp [n1, n2])]
  rw [s0]
  have hya := hT.has.lt ya (find_ads hf)
  have hyb := hT.has.lt yb (find_ads hf2)
  have hya' := h.has.lt ya (find_ads hf)
  have hyb' := h.has.lt yb (find_ads hf2)
  have la := find_leaf hT.has hf
  have lb := find_leaf hT.has hf2
  obtain ⟨G1, hG1⟩ : ∃ G1, G1 = G.set ya (.cells (rleaf q) 86) := ⟨_, rfl⟩
  have a1 : G1[ya]? = some (.cells (rleaf q) 86) := by rw [hG1, List.getElem?_set_self hya]
  have k1 : ∀ m, m ≠ ya → G1[m]? = G[m]? := fun m hm => by rw [hG1, List.getElem?_set_ne (Ne.symm hm)]
  have hasG1 : HasD G1 (D.setA ya q) := setA_has la a1 hT.has fun m hm hne => k1 m hne
  have lb1 : ∃ r0, G1[yb]? = some (.cells (rleaf r0) 86) := by
    by_cases e : yb = ya
    · exact ⟨q, by rw [e]; exact a1⟩
    · exact ⟨q, by rw [k1 yb e]; exact lb⟩
  obtain ⟨r0, lb1⟩ := lb1
  obtain ⟨G2, hG2⟩ : ∃ G2, G2 = G1.set yb (.cells (rleaf p) 86) := ⟨_, rfl⟩
  have hl1' : G1.length = G.length := by rw [hG1]; simp
  have a2 : G2[yb]? = some (.cells (rleaf p) 86) := by rw [hG2, List.getElem?_set_self (by omega)]
  have k2 : ∀ m, m ≠ yb → G2[m]? = G1[m]? := fun m hm => by rw [hG2, List.getElem?_set_ne (Ne.symm hm)]
  have hasG2 : HasD G2 ((D.setA ya q).setA yb p) := setA_has lb1 a2 hasG1 fun m hm hne => k2 m hne
  have hp1 : G1[H.length]? = _ := (k1 _ (by omega)).trans hp
  simp only [rleaf] at la lb1
  simp [recheck, hw, hp, hq, AO.content, AO.withContent, readN, writeN, splice, optP, eqEv, la]
  have e1 : G.set ya (.cells [.int .i64 0, .int .i64 0, .nilptr, .nilptr, .int .i64 q.a, .int .i64 q.b, .int .i64 q.c] 86) = G1 := by rw [hG1]; rfl
  rw [e1]
  simp [hp1, lb1, AO.content, AO.withContent, readN, writeN, splice]
  have e2 : G1.set yb (.cells [.int .i64 0, .int .i64 0, .nilptr, .nilptr, .int .i64 p.a, .int .i64 p.b, .int .i64 p.c] 86) = G2 := by rw [hG2]; rfl
  rw [e2]
  have hl2 : G2.length = G1.length := by rw [hG2]; simp
  have hk : ∀ m, m ∉ D.ads → G2[m]? = G[m]? := fun m hm => by
    rw [k2 m fun e => hm (e ▸ find_ads hf2), k1 m fun e => hm (e ▸ find_ads hf)]
  refine ⟨rfl, by omega, fun m hm hnm => by rw [hk m hnm, hk1 m hm], (D.setA ya q).setA yb p, ⟨?_, hasG2, by rw [setA_ads, setA_ads]; exact h.nodup⟩, setA_shape fun x r hx => ?_, fun m hm => ?_⟩
  · rw [setA_ad, setA_ad, hk w hwo]; exact hw
  · have nf := (lvs_ads D).nodup h.nodup
    have np : (D.lvs.map (·.2)).Nodup := by rw [lvs_panes]; exact g.nodup
    have ma := find_lvs hf
    have mb := find_lvs hf2
    refine ⟨⟨fun e => ?_, fun e => ?_⟩, ⟨fun e => ?_, fun e => ?_⟩⟩
    · have := inj_nodup (·.1) nf hx ma e; exact (Prod.mk.inj this).2
    · have := inj_nodup (·.2) np hx ma e; exact (Prod.mk.inj this).1
    · have := inj_nodup (·.1) nf hx mb e; exact (Prod.mk.inj this).2
    · have := inj_nodup (·.2) np hx mb e; exact (Prod.mk.inj this).1
  · rw [setA_ads, setA_ads] at hm; exact .inl hm
/-! ### Close -/
def DT.node : DT → List AV
  | .leaf _ r => rleaf r
  | .split _ s h a b => rsplit s h a.ad b.ad
theorem HasD.at {H : AH} {D : DT} (h : HasD H D) : H[D.ad]? = some (.cells D.node 86) := by
  cases D with
  | leaf x r => exact h
  | split x s hh a b => exact h.1
def DT.rebase (x : Nat) : DT → DT
  | .leaf _ r => .leaf x r
  | .split _ s h a b => .split x s h a b
def DT.isLd (p : PA) : DT → Bool
  | .leaf _ r => decide (r = p)
  | _ => false
def DT.closeD (p : PA) : DT → DT
  | .leaf x r => .leaf x r
  | .split x s h a b => if a.isLd p then b.rebase x else if b.isLd p then a.rebase x else .split x s h (a.closeD p) (b.closeD p)
theorem isLd_shape (p : PA) (D : DT) : D.isLd p = D.shape.isL p := by cases D <;> rfl
theorem rebase_shape (x : Nat) (D : DT) : (D.rebase x).shape = D.shape := by cases D <;> rfl
theorem closeD_shape (p : PA) : ∀ D : DT, (D.closeD p).shape = D.shape.closeA p
  | .leaf _ _ => rfl
  | .split x s h a b => by
    simp only [DT.closeD, DT.shape, PT.closeA, isLd_shape]
    split
    · exact rebase_shape x b
    · split
      · exact rebase_shape x a
      · simp only [DT.shape, closeD_shape p a, closeD_shape p b]
theorem rebase_ad (x : Nat) (D : DT) : (D.rebase x).ad = x := by cases D <;> rfl
theorem closeD_ad (p : PA) (D : DT) : (D.closeD p).ad = D.ad := by
  cases D with
  | leaf _ _ => rfl
  | split x s h a b =>
    simp only [DT.closeD]
    split
    · rw [rebase_ad]; rfl
    · split
      · rw [rebase_ad]; rfl
      · rfl
theorem rebase_ads (x : Nat) (D : DT) : (D.rebase x).ads.Sublist (x :: D.ads) := by
  cases D with
  | leaf y r => exact (List.Sublist.refl [x]).trans (by simp [DT.ads])
  | split y s h a b =>
    simp only [DT.rebase, DT.ads]
    exact (List.sublist_cons_self y (a.ads ++ b.ads)).cons_cons x
theorem closeD_ads (p : PA) : ∀ D : DT, (D.closeD p).ads.Sublist D.ads
  | .leaf _ _ => List.Sublist.refl _
  | .split x s h a b => by
    simp only [DT.closeD]
    split
    · exact (rebase_ads x b).trans ((List.sublist_append_right a.ads b.ads).cons_cons x)
    · split
      · exact (rebase_ads x a).trans ((List.sublist_append_left a.ads b.ads).cons_cons x)
      · simp only [DT.ads]
        exact ((closeD_ads p a).append (closeD_ads p b)).cons_cons x
theorem HasD.rebase {H G : AH} {x : Nat} {D : DT} (h : HasD H D) (hx : G[x]? = some (.cells D.node 86)) (hk : ∀ m ∈ D.ads, m ≠ x → G[m]? = H[m]?) (hn : x ∉ D.ads) : HasD G (D.rebase x) := by
  cases D with
  | leaf y r => exact hx
  | split y s hh a b =>
    refine ⟨hx, h.2.1.frame fun m hm => hk m (by simp [DT.ads, hm]) fun e => hn (by simp [DT.ads, ← e, hm]), h.2.2.frame fun m hm => hk m (by simp [DT.ads, hm]) fun e => hn (by simp [DT.ads, ← e, hm])⟩
def sndC : AC → AC | .seq _ b => b | x => x
def CloseOut (H : AH) (p : PA) (D : DT) (v : AV) (G : AH) : Prop := v = .tuple [] ∧ H.length ≤ G.length ∧ (∀ m, m < H.length → m ∉ D.ads → G[m]? = H[m]?) ∧ HasD G (D.closeD p)
theorem rclose1_ok (p : PA) : ∀ {D : DT} {H : AH}, D.shape.sides → HasD H D → D.ads.Nodup → ACalls Try.prog R 46 [.ptr (.mu D.ad) 0, p.av] H (CloseOut H p D)
  | .leaf x r, H, _, h, _ => by
    refine ACalls.of_wpE Fns.ok46 (by simp [Fns.a46]) ?_
    have h' := h
    simp only [HasD, rleaf] at h'
    have f := get_app (X := [AO.cells [AV.int .i64 p.a, .int .i64 p.b, .int .i64 p.c] 32]) h'
    simp [Fns.a46, PA.av, PA.cells, DT.ad, f, AO.content]
    exact ⟨rfl, by simp, fun m hm _ => List.getElem?_append_left hm, HasD.app h _⟩
  | .split x s hh a b, H, ⟨s1, _, _, sa, sb⟩, h, hn => by
    obtain ⟨h1, h2, h3⟩ := h
    have s0 : ¬ s = 0 := by omega
    obtain ⟨n1, n2, n3, n4, n5⟩ := nodup_split hn
    obtain ⟨H1, hH1⟩ : ∃ H1, H1 = H ++ [AO.cells p.cells 32] := ⟨_, rfl⟩
    have hp : H1[H.length]? = some (.cells p.cells 32) := by rw [hH1]; simp
    have hk1 : ∀ m, m < H.length → H1[m]? = H[m]? := fun m hm => by rw [hH1]; exact List.getElem?_append_left hm
    have hl1 : H1.length = H.length + 1 := by rw [hH1]; simp
    have hx : H1[x]? = some (.cells (rsplit s hh a.ad b.ad) 86) := by rw [hH1]; exact get_app h1
    have ha : HasD H1 a := by rw [hH1]; exact h2.app _
    have hb : HasD H1 b := by rw [hH1]; exact h3.app _
    have aa := ha.at
    have bb := hb.at
    have hxl := (List.getElem?_eq_some_iff.1 h1).1
    have he := fun r : PA => eqP r.a r.b r.c p.a p.b p.c
    simp only [fieldsP] at he
    have hdd : ∀ r : PA, (decide (r.a = p.a) && (decide (r.b = p.b) && decide (r.c = p.c))) = decide (r = p) := fun r => by
      rw [Bool.eq_iff_iff]; simp [PA.eq]
    have ia := rclose1_ok p sa ha n3
    have ib := fun (G : AH) (hG : HasD G b) => rclose1_ok p sb hG n4
    -- one child stays
    have fin1 : ∀ E : DT, (E = a ∨ E = b) → DT.closeD p (.split x s hh a b) = E.rebase x → CloseOut H p (.split x s hh a b) (.tuple []) (H1.set x (.cells E.node 86)) := fun E hE hc => by
      have hEn : x ∉ E.ads := by rcases hE with rfl | rfl <;> assumption
      have hEh : HasD H1 E := by rcases hE with rfl | rfl <;> assumption
      refine ⟨rfl, by simp; omega, fun m hm hnm => ?_, ?_⟩
      · rw [List.getElem?_set_ne (fun e => hnm (by simp [DT.ads, e])), hk1 m hm]
      · rw [hc]
        exact hEh.rebase (List.getElem?_set_self (by omega)) (fun m hm hne => List.getElem?_set_ne (Ne.symm hne)) hEn
    -- both are gone into
    have fin2 : a.isLd p = false → b.isLd p = false → ∀ G2 G3, CloseOut H1 p a (.tuple []) G2 → CloseOut G2 p b (.tuple []) G3 → CloseOut H p (.split x s hh a b) (.tuple []) G3 := fun la lb G2 G3 ⟨_, q1, q2, q3⟩ ⟨_, r1, r2, r3⟩ => by
      have hax : ∀ m ∈ a.ads, m < H1.length := ha.lt
      have hbx : ∀ m ∈ b.ads, m < H1.length := hb.lt
      refine ⟨rfl, by omega, fun m hm hnm => ?_, ?_⟩
      · simp only [DT.ads, List.mem_cons, List.mem_append, not_or] at hnm
        rw [r2 m (by omega) hnm.2.2, q2 m (by omega) hnm.2.1, hk1 m hm]
      · simp only [DT.closeD, la, lb, Bool.false_eq_true, if_false]
        refine ⟨?_, q3.frame fun m hm => ?_, r3⟩
        · rw [closeD_ad, closeD_ad, r2 x (by omega) n2, q2 x (by omega) n1, hx]
        · have hma := (closeD_ads p a).subset hm
          exact r2 m (by have := hax m hma; omega) (n5 m hma)
    have hpa : H.length ∉ a.ads := fun hm => by have := h2.lt _ hm; omega
    have hpb : H.length ∉ b.ads := fun hm => by have := h3.lt _ hm; omega
    refine ACalls.of_wpE Fns.ok46 (by simp [Fns.a46]) ?_
    simp only [PA.cells] at hp hH1
    simp only [rsplit] at hx
    simp only [PA.av, PA.cells] at ia ib
    -- what is left where neither child is the leaf
    have tail : ∀ e : Env, e 0 = .ptr (.mu x) 0 → e 3 = .ptr (.mu H.length) 0 → a.isLd p = false → b.isLd p = false →
        wpE Try.prog R Fns.a46.nt (sndC (sndC (sndC (sndC Fns.a46.body)))) (QRet R Fns.a46.res (CloseOut H p (.split x s hh a b))) e H1 := fun e e0 e3 la lb => by
      simp [Fns.a46, sndC]
      refine AWp.sched [0, 1, 2, 3, 4, 5] Fns.mixed (by decide +kernel) ?_
      simp [e0, e3, hx, hp, AO.content, readN]
      refine ia.mono ?_
      rintro v G2 ⟨rfl, q1, q2, q3⟩
      have hx2 : G2[x]? = _ := (q2 x (by omega) n1).trans hx
      have hp2 : G2[H.length]? = _ := (q2 _ (by omega) hpa).trans hp
      have hb2 : HasD G2 b := hb.frame fun m hm => q2 m (hb.lt m hm) fun h => n5 m h hm
      simp [recheck, hx, hx2, hp, hp2, AO.content, readN]
      refine AWp.sched [0, 1, 2, 3, 4, 5] Fns.mixed (by decide +kernel) ?_
      simp [e0, e3, hx2, hp2, AO.content, readN]
      refine (ib G2 hb2).mono ?_
      rintro v G3 ⟨rfl, r⟩
      simp [recheck]
      exact fin2 la lb G2 G3 ⟨rfl, q1, q2, q3⟩ ⟨rfl, r⟩
    simp [Fns.a46, PA.av, PA.cells, DT.ad]
    rw [← hH1]
    simp [hx, AO.content, s0]
    refine AWp.sched [0, 1, 2, 3, 4, 5, 6, 7, 8, 9, 10, 11, 12, 13, 14, 15, 16, 17, 18] Fns.mixed (by decide +kernel) ?_
    have second : ∀ e : Env, e 0 = .ptr (.mu x) 0 → e 3 = .ptr (.mu H.length) 0 → a.isLd p = false →
        wpE Try.prog R Fns.a46.nt (sndC (sndC (sndC Fns.a46.body))) (QRet R Fns.a46.res (CloseOut H p (.split x s hh a b))) e H1 := fun e e0 e3 la => by
      simp [Fns.a46, sndC]
      refine AWp.sched [0, 1, 2, 3, 4, 5, 6, 7, 8, 9, 10, 11, 12, 13, 14, 15, 16, 17, 18] Fns.mixed (by decide +kernel) ?_
      cases b with
      | leaf xb rb =>
        simp only [DT.node, rleaf, DT.ad] at bb hx
        simp [-eqEv, e0, e3, hx, hp, bb, AO.content, readN, he, DT.ad]
        rw [hdd]
        by_cases e : rb = p
        · have hc : DT.closeD p (.split x s hh a (.leaf xb rb)) = a.rebase x := by simp [DT.closeD, la]; simp [DT.isLd, e]
          have hf := fin1 a (.inl rfl) hc
          cases a with
          | leaf xa ra =>
            simp only [DT.node, rleaf, DT.ad] at aa hf hx
            rw [e] at hf
            simp [e, e0, e3, hx, aa, AO.content, AO.withContent, readN, writeN, splice]
            exact hf
          | split xa sda sha a1 a2 =>
            simp only [DT.node, rsplit, DT.ad] at aa hf hx
            rw [e] at hf
            simp [e, e0, e3, hx, aa, AO.content, AO.withContent, readN, writeN, splice]
            exact hf
        · simp [e]
          exact tail _ (by simp [e0]) (by simp [e3]) la (by simp [DT.isLd, e])
      | split xb sdb shb b1 b2 =>
        have sb0 : ¬ sdb = 0 := by have := sb.1; omega
        simp only [DT.node, rsplit, DT.ad] at bb hx
        simp [e0, e3, hx, hp, bb, AO.content, readN, DT.ad, sb0]
        exact tail _ (by simp [e0]) (by simp [e3]) la rfl
    cases a with
    | leaf xa ra =>
      simp only [DT.node, rleaf, DT.ad] at aa hx
      simp [-eqEv, hx, hp, aa, AO.content, readN, he, DT.ad]
      rw [hdd]
      by_cases e : ra = p
      · have hc : DT.closeD p (.split x s hh (.leaf xa ra) b) = b.rebase x := by simp [DT.closeD, DT.isLd, e]
        have hf := fin1 b (.inr rfl) hc
        cases b with
        | leaf xb rb =>
          simp only [DT.node, rleaf, DT.ad] at bb hf hx
          rw [e] at hf
          simp [e, hx, bb, AO.content, AO.withContent, readN, writeN, splice]
          exact hf
        | split xb sdb shb b1 b2 =>
          simp only [DT.node, rsplit, DT.ad] at bb hf hx
          rw [e] at hf
          simp [e, hx, bb, AO.content, AO.withContent, readN, writeN, splice]
          exact hf
      · simp [e]
        exact second _ (by simp) (by simp) (by simp [DT.isLd, e])
    | split xa sda sha a1 a2 =>
      have sa0 : ¬ sda = 0 := by have := sa.1; omega
      simp only [DT.node, rsplit, DT.ad] at aa hx
      simp [hx, hp, aa, AO.content, readN, DT.ad, sa0]
      exact second _ (by simp) (by simp) rfl
theorem rclose_ok {H : AH} {w : Nat} {D : DT} (h : RT H w D) (g : Good D.shape) (p : PA) :
    ACalls Try.prog R 27 [.ptr (.mu w) 0, p.av] H (RefOut H w D (D.shape.closeR p)) := by
  refine ACalls.of_wpE Fns.ok27 (by simp [Fns.a27]) ?_
  obtain ⟨H1, hH1⟩ : ∃ H1, H1 = H ++ [AO.cells p.cells 32] := ⟨_, rfl⟩
  have hp : H1[H.length]? = some (.cells p.cells 32) := by rw [hH1]; simp
  have hT : RT H1 w D := by rw [hH1]; exact h.app _
  have hl1 : H1.length = H.length + 1 := by rw [hH1]; simp
  have hk1 : ∀ m, m < H.length → H1[m]? = H[m]? := fun m hm => by rw [hH1]; exact List.getElem?_append_left hm
  have hhs := rhas_ok (R := R) hT g.sides p
  have hcl := rclose1_ok (R := R) p g.sides hT.has h.nodup
  have hw := hT.hw
  have hwo := h.out
  have hat := hT.has.at
  simp only [PA.av, PA.cells] at hhs hcl hp hH1
  simp [Fns.a27, PA.av, PA.cells]
  rw [← hH1]
  refine hhs.mono ?_
  rintro v G ⟨rfl, rfl⟩
  have same : ∀ c, D.shape.closeR p = (c, D.shape) → RefOut H w D (D.shape.closeR p) (.int .i64 c) G := fun c hc => by
    rw [hc]; exact RefOut.same h (by omega) fun m hm => hk1 m hm
  by_cases c1 : D.shape.pos p = none
  · simp [c1]
    exact same 4 (by unfold PT.closeR; rw [if_pos c1])
  simp [c1, hw, AO.content]
  cases D with
  | leaf x r =>
    simp only [DT.node, rleaf] at hat
    simp [hat, AO.content]
    exact same 9 (by unfold PT.closeR; rw [if_neg c1, if_pos (show (DT.leaf x r).shape.isS = false from rfl)])
  | split x s hh a b =>
    have s0 : ¬ s = 0 := by have := g.sides.1; omega
    have sR : (DT.split x s hh a b).shape.closeR p = (0, (DT.split x s hh a b).shape.closeA p) := by
      unfold PT.closeR; rw [if_neg c1, if_neg (by simp [DT.shape, PT.isS])]
    simp only [DT.node, rsplit] at hat
    simp [hat, AO.content, s0]
    refine AWp.sched [0, 1, 2, 3, 4, 5] Fns.mixed (by decide +kernel) ?_
    simp [hw, hp, AO.content, readN]
    refine hcl.mono ?_
    rintro v G1 ⟨rfl, q1, q2, q3⟩
    have hp2 : G1[H.length]? = _ := (q2 _ (by omega) fun hm => by have := h.has.lt _ hm; omega).trans hp
    have hw2 : G1[w]? = _ := (q2 _ (List.getElem?_eq_some_iff.1 hw).1 hwo).trans hw
    simp [recheck, hw, hw2, hp, hp2, AO.content, readN]
    rw [sR]
    refine ⟨rfl, by omega, fun m hm hnm => by rw [q2 m (by omega) hnm, hk1 m hm], _, ⟨by rw [closeD_ad]; exact hw2, q3, (closeD_ads p _).nodup h.nodup⟩, closeD_shape p _, fun m hm => .inl ((closeD_ads p _).subset hm)⟩
end Go.Proofs.Ytbcfhiohdamcjaa.Tr
namespace Go.Proofs.Ytbcfhiohdamcjaa.Tr
open Go Go.RowKit Am
set_option maxRecDepth 100000
set_option maxHeartbeats 2000000
set_option linter.unusedSimpArgs false
set_option linter.unusedVariables false
attribute [-simp] Am.binEv Am.intBin Am.read1
attribute [local simp] binEv_lss binEv_leq binEv_gtr binEv_geq binEv_eql binEv_neq binEv_add binEv_sub binEv_mul read1_ro read1_mu
variable {R : Ro}
open PT DT
def DT.shareD (side : Int) (p : PA) (d : Int) : DT → Option DT
  | .leaf _ _ => none
  | .split x s h a b => match a.find p with
    | some _ => match a.shareD side p d with
      | some a' => some (.split x s h a' b)
      | none => if s = side then some (.split x s (clamp 1 99 (h + d)) a b) else none
    | none => match b.shareD side p d with
      | some b' => some (.split x s h a b')
      | none => if s = side then some (.split x s (clamp 1 99 (h - d)) a b) else none
theorem shareD_shape (side : Int) (p : PA) (d : Int) : ∀ D : DT, (D.shareD side p d).map DT.shape = D.shape.shareA side p d
  | .leaf _ _ => rfl
  | .split x s h a b => by
    have ia := shareD_shape side p d a
    have ib := shareD_shape side p d b
    have hp := find_pos (p := p) (D := a)
    simp only [DT.shareD, DT.shape, PT.shareA]
    cases ha : a.find p with
    | some y =>
      cases hq : a.shape.pos p with
      | none => rw [hp.2 hq] at ha; cases ha
      | some i =>
        cases hs : a.shareD side p d with
        | some a' => rw [hs] at ia; simp only [Option.map_some] at ia; rw [← ia]; rfl
        | none =>
          rw [hs] at ia; simp only [Option.map_none] at ia; rw [← ia]
          simp only
          split <;> rfl
    | none =>
      rw [hp.1 ha]
      cases hs : b.shareD side p d with
      | some b' => rw [hs] at ib; simp only [Option.map_some] at ib; rw [← ib]; rfl
      | none =>
        rw [hs] at ib; simp only [Option.map_none] at ib; rw [← ib]
        simp only
        split <;> rfl
theorem shareD_keep {side : Int} {p : PA} {d : Int} : ∀ {D D' : DT}, D.shareD side p d = some D' → D'.ad = D.ad ∧ D'.ads = D.ads
  | .leaf _ _, D', h => by cases h
  | .split x s h a b, D', hp => by
    simp only [DT.shareD] at hp
    split at hp
    · split at hp
      · rename_i a' ha; cases hp; exact ⟨rfl, by simp [DT.ads, (shareD_keep ha).2]⟩
      · split at hp <;> cases hp; exact ⟨rfl, rfl⟩
    · split at hp
      · rename_i b' hb; cases hp; exact ⟨rfl, by simp [DT.ads, (shareD_keep hb).2]⟩
      · split at hp <;> cases hp; exact ⟨rfl, rfl⟩
def ShareOut (H : AH) (D : DT) (r : Option DT) (v : AV) (G : AH) : Prop := H.length ≤ G.length ∧ (∀ m, m < H.length → m ∉ D.ads → G[m]? = H[m]?) ∧ match r with
  | some D' => v = .bool true ∧ HasD G D'
  | none => v = .bool false ∧ HasD G D
theorem clamp_def (z : Int) : clamp 1 99 z = if z < 1 then 1 else if 99 < z then 99 else z := by
  unfold clamp mnI mxI; split <;> split <;> omega
theorem rshare1_ok (side : Int) (p : PA) {d : Int} (hd1 : -99 ≤ d) (hd2 : d ≤ 99) : ∀ {D : DT} {H : AH}, D.shape.sides → HasD H D → D.ads.Nodup → D.find p ≠ none → ACalls Try.prog R 47 [.ptr (.mu D.ad) 0, p.av, .int .i64 side, .int .i64 d] H (ShareOut H D (D.shareD side p d))
  | .leaf x r, H, _, h, _, _ => by
    refine ACalls.of_wpE Fns.ok47 (by simp [Fns.a47]) ?_
    have h' := h
    simp only [HasD, rleaf] at h'
    have f := get_app (X := [AO.cells [AV.int .i64 p.a, .int .i64 p.b, .int .i64 p.c] 32]) h'
    simp [Fns.a47, PA.av, PA.cells, DT.ad, f, AO.content]
    exact ⟨by simp, fun m hm _ => List.getElem?_append_left hm, rfl, HasD.app h _⟩
  | .split x s hh a b, H, ⟨s1, s2, s3, sa, sb⟩, h, hn, hne => by
    obtain ⟨h1, h2, h3⟩ := h
    have s0 : ¬ s = 0 := by omega
    obtain ⟨n1, n2, n3, n4, n5⟩ := nodup_split hn
    obtain ⟨H1, hH1⟩ : ∃ H1, H1 = H ++ [AO.cells p.cells 32] := ⟨_, rfl⟩
    have hp : H1[H.length]? = some (.cells p.cells 32) := by rw [hH1]; simp
    have hk1 : ∀ m, m < H.length → H1[m]? = H[m]? := fun m hm => by rw [hH1]; exact List.getElem?_append_left hm
    have hl1 : H1.length = H.length + 1 := by rw [hH1]; simp
    have hx : H1[x]? = some (.cells (rsplit s hh a.ad b.ad) 86) := by rw [hH1]; exact get_app h1
    have ha : HasD H1 a := by rw [hH1]; exact h2.app _
    have hb : HasD H1 b := by rw [hH1]; exact h3.app _
    have hxl := (List.getElem?_eq_some_iff.1 h1).1
    have fa := find_ok (R := R) p sa ha
    have fb := find_ok (R := R) p sb hb
    have hpa : H.length ∉ a.ads := fun hm => by have := h2.lt _ hm; omega
    have hpb : H.length ∉ b.ads := fun hm => by have := h3.lt _ hm; omega
    -- the share itself is written
    have finW : ∀ (G2 : AH) (z : Int), H1.length ≤ G2.length → (∀ m, m < H1.length → m ∉ a.ads → m ∉ b.ads → G2[m]? = H1[m]?) → HasD G2 a → HasD G2 b → ShareOut H (.split x s hh a b) (some (.split x s z a b)) (.bool true) (G2.set x (.cells (rsplit s z a.ad b.ad) 86)) := fun G2 z q1 q2 qa qb => by
      refine ⟨by simp; omega, fun m hm hnm => ?_, rfl, ?_⟩
      · simp only [DT.ads, List.mem_cons, List.mem_append, not_or] at hnm
        rw [List.getElem?_set_ne (Ne.symm hnm.1), q2 m (by omega) hnm.2.1 hnm.2.2, hk1 m hm]
      · exact ⟨List.getElem?_set_self (by omega), qa.frame fun m hm => List.getElem?_set_ne (fun e => n1 (by rw [e]; exact hm)), qb.frame fun m hm => List.getElem?_set_ne (fun e => n2 (by rw [e]; exact hm))⟩
    refine ACalls.of_wpE Fns.ok47 (by simp [Fns.a47]) ?_
    simp only [PA.av, PA.cells] at hp hH1 fa fb
    simp only [rsplit] at hx
    simp [Fns.a47, PA.av, PA.cells, DT.ad]
    rw [← hH1]
    simp [hx, AO.content, s0]
    refine AWp.sched [0, 1, 2, 3, 4, 5, 6, 7] Fns.mixed (by decide +kernel) ?_
    simp [hx, hp, AO.content, readN]
    refine fa.mono ?_
    rintro v G ⟨rfl, rfl⟩
    have hwr : ∀ (G2 : AH) (z : Int), G2[x]? = some (.cells (rsplit s hh a.ad b.ad) 86) → ∀ y : Int, (G2.set x (.cells (rsplit s y a.ad b.ad) 86))[x]? = some (.cells (rsplit s y a.ad b.ad) 86) := fun G2 z hz y => List.getElem?_set_self (List.getElem?_eq_some_iff.1 hz).1
    cases hfa : a.find p with
    | some y =>
      have ia := rshare1_ok side p hd1 hd2 sa ha n3 (by rw [hfa]; simp)
      simp only [PA.av, PA.cells] at ia
      simp [recheck, hx, hp, AO.content, readN, optP, eqEv]
      refine AWp.sched [0, 1, 2, 3, 4, 5, 6, 7, 8, 9, 10] Fns.mixed (by decide +kernel) ?_
      simp [hx, hp, AO.content, readN]
      refine AWp.sched [0, 1, 2, 3, 4, 5, 6, 7, 8, 9, 10, 11, 12, 13, 14, 15, 16, 17, 18, 19, 20, 21, 22, 23, 24] Fns.mixed (by decide +kernel) ?_
      simp [hx, hp, AO.content, readN]
      refine ia.mono ?_
      rintro v G2 ⟨q1, q2, q3⟩
      have hx2 : G2[x]? = _ := (q2 x (by omega) n1).trans hx
      have hp2 : G2[H.length]? = _ := (q2 _ (by omega) hpa).trans hp
      have hb2 : HasD G2 b := hb.frame fun m hm => q2 m (hb.lt m hm) fun h => n5 m h hm
      cases hsd : a.shareD side p d with
      | some a' =>
        rw [hsd] at q3
        obtain ⟨rfl, q3⟩ := q3
        simp [recheck, hx, hx2, hp, hp2, AO.content, readN]
        have hD : DT.shareD side p d (.split x s hh a b) = some (.split x s hh a' b) := by simp only [DT.shareD, hfa, hsd]
        rw [hD]
        refine ⟨by omega, fun m hm hnm => ?_, rfl, ?_, q3, hb2⟩
        · simp only [DT.ads, List.mem_cons, List.mem_append, not_or] at hnm
          rw [q2 m (by omega) hnm.2.1, hk1 m hm]
        · rw [(shareD_keep hsd).1]; exact hx2
      | none =>
        rw [hsd] at q3
        obtain ⟨rfl, q3⟩ := q3
        simp [recheck, hx, hx2, hp, hp2, AO.content, readN]
        by_cases hss : s = side
        · have hD : DT.shareD side p d (.split x s hh a b) = some (.split x s (clamp 1 99 (hh + d)) a b) := by simp only [DT.shareD, hfa, hsd, if_pos hss]
          rw [hD]
          have hf := finW G2 (clamp 1 99 (hh + d)) q1 (fun m hm hma _ => q2 m hm hma) q3 hb2
          have ws : IntKind.i64.wrap (hh + d) = hh + d := by simp only [IntKind.wrap, IntKind.bits, IntKind.signed]; simp; omega
          have hw2 := hwr G2 0 hx2
          simp only [rsplit] at hw2
          rw [clamp_def] at hf ⊢
          rw [hss] at hf hx2 hw2 ⊢
          by_cases c1 : hh + d < 1
          · rw [if_pos c1] at hf ⊢
            have c2 : ¬ (99 : Int) < 1 := by omega
            simp [hss, hx2, hw2, ws, c1, AO.content, AO.withContent, writeN, splice]
            exact hf
          · rw [if_neg c1] at hf ⊢
            by_cases c2 : 99 < hh + d
            · rw [if_pos c2] at hf ⊢
              simp [hss, hx2, hw2, ws, c1, c2, AO.content, AO.withContent, writeN, splice]
              exact hf
            · rw [if_neg c2] at hf ⊢
              simp [hss, hx2, hw2, ws, c1, c2, AO.content, AO.withContent, writeN, splice]
              exact hf
        · have hD : DT.shareD side p d (.split x s hh a b) = none := by simp only [DT.shareD, hfa, hsd, if_neg hss]
          rw [hD]
          simp [hx2, hss, AO.content]
          refine ⟨by omega, fun m hm hnm => ?_, rfl, hx2, q3, hb2⟩
          simp only [DT.ads, List.mem_cons, List.mem_append, not_or] at hnm
          rw [q2 m (by omega) hnm.2.1, hk1 m hm]
    | none =>
      have hfb : b.find p ≠ none := fun e => hne (by simp only [DT.find, hfa, e])
      have ib := rshare1_ok side p hd1 hd2 sb hb n4 hfb
      simp only [PA.av, PA.cells] at ib
      simp [recheck, hx, hp, AO.content, readN, optP, eqEv]
      refine AWp.sched [0, 1, 2, 3, 4, 5, 6, 7, 8, 9, 10] Fns.mixed (by decide +kernel) ?_
      simp [hx, hp, AO.content, readN]
      refine fb.mono ?_
      rintro v G ⟨rfl, rfl⟩
      obtain ⟨y, hfb'⟩ : ∃ y, b.find p = some y := Option.ne_none_iff_exists'.1 hfb
      rw [hfb']
      simp [recheck, hx, hp, AO.content, readN, optP, eqEv]
      refine AWp.sched [0, 1, 2, 3, 4, 5, 6, 7, 8, 9, 10, 11, 12, 13, 14, 15, 16, 17, 18, 19, 20, 21, 22, 23, 24] Fns.mixed (by decide +kernel) ?_
      simp [hx, hp, AO.content, readN]
      refine ib.mono ?_
      rintro v G2 ⟨q1, q2, q3⟩
      have hx2 : G2[x]? = _ := (q2 x (by omega) n2).trans hx
      have hp2 : G2[H.length]? = _ := (q2 _ (by omega) hpb).trans hp
      have ha2 : HasD G2 a := ha.frame fun m hm => q2 m (ha.lt m hm) fun h => n5 m hm h
      cases hsd : b.shareD side p d with
      | some b' =>
        rw [hsd] at q3
        obtain ⟨rfl, q3⟩ := q3
        simp [recheck, hx, hx2, hp, hp2, AO.content, readN]
        have hD : DT.shareD side p d (.split x s hh a b) = some (.split x s hh a b') := by simp only [DT.shareD, hfa, hsd]
        rw [hD]
        refine ⟨by omega, fun m hm hnm => ?_, rfl, ?_, ha2, q3⟩
        · simp only [DT.ads, List.mem_cons, List.mem_append, not_or] at hnm
          rw [q2 m (by omega) hnm.2.2, hk1 m hm]
        · rw [(shareD_keep hsd).1]; exact hx2
      | none =>
        rw [hsd] at q3
        obtain ⟨rfl, q3⟩ := q3
        simp [recheck, hx, hx2, hp, hp2, AO.content, readN]
        by_cases hss : s = side
        · have hD : DT.shareD side p d (.split x s hh a b) = some (.split x s (clamp 1 99 (hh - d)) a b) := by simp only [DT.shareD, hfa, hsd, if_pos hss]
          rw [hD]
          have hf := finW G2 (clamp 1 99 (hh - d)) q1 (fun m hm _ hmb => q2 m hm hmb) ha2 q3
          have wn : IntKind.i64.wrap (-d) = -d := by simp only [IntKind.wrap, IntKind.bits, IntKind.signed]; simp; omega
          have ws : IntKind.i64.wrap (hh + -d) = hh - d := by simp only [IntKind.wrap, IntKind.bits, IntKind.signed]; simp; omega
          have hw2 := hwr G2 0 hx2
          simp only [rsplit] at hw2
          rw [clamp_def] at hf ⊢
          rw [hss] at hf hx2 hw2 ⊢
          by_cases c1 : hh - d < 1
          · rw [if_pos c1] at hf ⊢
            have c2 : ¬ (99 : Int) < 1 := by omega
            simp [hss, hx2, hw2, ws, wn, c1, AO.content, AO.withContent, writeN, splice]
            exact hf
          · rw [if_neg c1] at hf ⊢
            by_cases c2 : 99 < hh - d
            · rw [if_pos c2] at hf ⊢
              simp [hss, hx2, hw2, ws, wn, c1, c2, AO.content, AO.withContent, writeN, splice]
              exact hf
            · rw [if_neg c2] at hf ⊢
              simp [hss, hx2, hw2, ws, wn, c1, c2, AO.content, AO.withContent, writeN, splice]
              exact hf
        · have hD : DT.shareD side p d (.split x s hh a b) = none := by simp only [DT.shareD, hfa, hsd, if_neg hss]
          rw [hD]
          simp [hx2, hss, AO.content]
          refine ⟨by omega, fun m hm hnm => ?_, rfl, hx2, ha2, q3⟩
          simp only [DT.ads, List.mem_cons, List.mem_append, not_or] at hnm
          rw [q2 m (by omega) hnm.2.2, hk1 m hm]
theorem clamp99 (d : Int) : clamp (-99) 99 d = if 99 < d then 99 else if d < -99 then -99 else d := by
  unfold clamp mnI mxI; split <;> split <;> (try split) <;> (try split) <;> omega
theorem rshare_ok {H : AH} {w : Nat} {D : DT} (h : RT H w D) (g : Good D.shape) (p : PA) (side d : Int) :
    ACalls Try.prog R 31 [.ptr (.mu w) 0, p.av, .int .i64 side, .int .i64 d] H (RefOut H w D (D.shape.shareR p side d)) := by
  refine ACalls.of_wpE Fns.ok31 (by simp [Fns.a31]) ?_
  obtain ⟨H1, hH1⟩ : ∃ H1, H1 = H ++ [AO.cells p.cells 32] := ⟨_, rfl⟩
  have hp : H1[H.length]? = some (.cells p.cells 32) := by rw [hH1]; simp
  have hT : RT H1 w D := by rw [hH1]; exact h.app _
  have hl1 : H1.length = H.length + 1 := by rw [hH1]; simp
  have hk1 : ∀ m, m < H.length → H1[m]? = H[m]? := fun m hm => by rw [hH1]; exact List.getElem?_append_left hm
  have hhs := rhas_ok (R := R) hT g.sides p
  have hw := hT.hw
  have hwo := h.out
  have hcl := clamp_le (show (-99 : Int) ≤ 99 by omega) d
  simp only [PA.av, PA.cells] at hhs hp hH1
  simp [Fns.a31, PA.av, PA.cells]
  rw [← hH1]
  refine hhs.mono ?_
  rintro v G ⟨rfl, rfl⟩
  have same : ∀ c, D.shape.shareR p side d = (c, D.shape) → RefOut H w D (D.shape.shareR p side d) (.int .i64 c) G := fun c hc => by
    rw [hc]; exact RefOut.same h (by omega) fun m hm => hk1 m hm
  by_cases c1 : D.shape.pos p = none
  · simp [c1]
    exact same 4 (by unfold PT.shareR; rw [if_pos c1])
  by_cases c2 : ¬ (side = 1 ∨ side = 2)
  · have r0 := same 1 (by unfold PT.shareR; rw [if_neg c1, if_pos c2])
    by_cases d1 : side < 1
    · simp [c1, d1]; exact r0
    · have d2 : 2 < side := by omega
      simp [c1, d1, d2]; exact r0
  have d1 : ¬ side < 1 := by omega
  have d2 : ¬ 2 < side := by omega
  have hfn : D.find p ≠ none := fun e => c1 (find_pos.1 e)
  have s0 : D.shape.shareR p side d = match D.shape.shareA side p (clamp (-99) 99 d) with | some P' => (0, P') | none => (9, D.shape) := by
    unfold PT.shareR; rw [if_neg c1, if_neg c2]; rfl
  have hsh := rshare1_ok (R := R) side p hcl.1 hcl.2 g.sides hT.has h.nodup hfn
  have hss := shareD_shape side p (clamp (-99) 99 d) D
  simp only [PA.av, PA.cells] at hsh
  have key : ∀ v G1, ShareOut G D (D.shareD side p (clamp (-99) 99 d)) v G1 → (v = .bool true ∧ RefOut H w D (D.shape.shareR p side d) (.int .i64 0) G1) ∨ (v = .bool false ∧ RefOut H w D (D.shape.shareR p side d) (.int .i64 9) G1) := by
    rintro v G1 ⟨q1, q2, q3⟩
    have hw2 : G1[w]? = _ := (q2 w (List.getElem?_eq_some_iff.1 hw).1 hwo).trans hw
    cases hd : D.shareD side p (clamp (-99) 99 d) with
    | some D' =>
      rw [hd] at q3 hss
      simp only [Option.map_some] at hss
      rw [← hss] at s0
      rw [s0]
      refine .inl ⟨q3.1, rfl, by omega, fun m hm hnm => by rw [q2 m (by omega) hnm, hk1 m hm], D', ⟨by rw [(shareD_keep hd).1]; exact hw2, q3.2, by rw [(shareD_keep hd).2]; exact h.nodup⟩, rfl, fun m hm => .inl ?_⟩
      rw [(shareD_keep hd).2] at hm; exact hm
    | none =>
      rw [hd] at q3 hss
      simp only [Option.map_none] at hss
      rw [← hss] at s0
      rw [s0]
      exact .inr ⟨q3.1, rfl, by omega, fun m hm hnm => by rw [q2 m (by omega) hnm, hk1 m hm], D, ⟨hw2, q3.2, h.nodup⟩, rfl, fun m hm => .inl hm⟩
  rw [clamp99] at hsh key
  by_cases e1 : 99 < d
  · rw [if_pos e1] at hsh key
    simp [c1, d1, d2, e1]
    refine AWp.sched [0, 1, 2, 3, 4, 5, 6, 7, 8] Fns.mixed (by decide +kernel) ?_
    simp [hw, hp, AO.content, readN]
    refine hsh.mono ?_
    intro v G1 hv
    have hp2 : G1[H.length]? = _ := (hv.2.1 _ (by omega) fun hm => by have := h.has.lt _ hm; omega).trans hp
    have hw2 : G1[w]? = _ := (hv.2.1 w (List.getElem?_eq_some_iff.1 hw).1 hwo).trans hw
    rcases key v G1 hv with ⟨rfl, hr⟩ | ⟨rfl, hr⟩
    · simp [recheck, hw2, hp2, AO.content, readN]; exact hr
    · simp [recheck, hw2, hp2, AO.content, readN]; exact hr
  · rw [if_neg e1] at hsh key
    by_cases e2 : d < -99
    · rw [if_pos e2] at hsh key
      simp [c1, d1, d2, e1, e2]
      refine AWp.sched [0, 1, 2, 3, 4, 5, 6, 7, 8] Fns.mixed (by decide +kernel) ?_
      simp [hw, hp, AO.content, readN]
      refine hsh.mono ?_
      intro v G1 hv
      have hp2 : G1[H.length]? = _ := (hv.2.1 _ (by omega) fun hm => by have := h.has.lt _ hm; omega).trans hp
      have hw2 : G1[w]? = _ := (hv.2.1 w (List.getElem?_eq_some_iff.1 hw).1 hwo).trans hw
      rcases key v G1 hv with ⟨rfl, hr⟩ | ⟨rfl, hr⟩
      · simp [recheck, hw2, hp2, AO.content, readN]; exact hr
      · simp [recheck, hw2, hp2, AO.content, readN]; exact hr
    · rw [if_neg e2] at hsh key
      simp [c1, d1, d2, e1, e2]
      refine AWp.sched [0, 1, 2, 3, 4, 5, 6, 7, 8] Fns.mixed (by decide +kernel) ?_
      simp [hw, hp, AO.content, readN]
      refine hsh.mono ?_
      intro v G1 hv
      have hp2 : G1[H.length]? = _ := (hv.2.1 _ (by omega) fun hm => by have := h.has.lt _ hm; omega).trans hp
      have hw2 : G1[w]? = _ := (hv.2.1 w (List.getElem?_eq_some_iff.1 hw).1 hwo).trans hw
      rcases key v G1 hv with ⟨rfl, hr⟩ | ⟨rfl, hr⟩
      · simp [recheck, hw2, hp2, AO.content, readN]; exact hr
      · simp [recheck, hw2, hp2, AO.content, readN]; exact hr
/-! ### Both, in one heap -/
/-- The program's tree and the document's, alike. -/
structure DD (H : AH) (t w : Nat) (P : PT) : Prop where
  prog : ∃ j cp, TreM H t j cp (tell 0 P)
  ref : ∃ D, RT H w D ∧ D.shape = P
  good : Good P
theorem DD.app {H : AH} {t w : Nat} {P : PT} (h : DD H t w P) (X : AH) : DD (H ++ X) t w P := by
  obtain ⟨⟨j, cp, h1⟩, ⟨D, h2, h3⟩, h4⟩ := h
  exact ⟨⟨j, cp, h1.app X⟩, ⟨D, h2.app X, h3⟩, h4⟩
theorem TreM.kinds {H : AH} {t j : Nat} {cp : Cap} {N : List ND} (h : TreM H t j cp N) {m : Nat} {c : List AV} {ty : TypeId} (hm : H[m]? = some (.cells c ty)) (h1 : ty ≠ 58) (h2 : ty ≠ 55) : m ≠ t ∧ m ≠ j := by
  refine ⟨fun e => ?_, fun e => ?_⟩
  · subst e; rw [h.ht] at hm; cases hm; exact h1 rfl
  · subst e
    obtain ⟨o, ho, hc⟩ := h.obj
    rw [ho] at hm
    rcases hc with ⟨_, rfl⟩ | ⟨_, _, rfl⟩
    · cases hm
    · cases hm; exact h2 rfl
theorem RT.frame {H G : AH} {w : Nat} {D : DT} (h : RT H w D) (hw : G[w]? = H[w]?) (hk : ∀ m ∈ D.ads, G[m]? = H[m]?) : RT G w D := ⟨hw.trans h.hw, h.has.frame hk, h.nodup⟩
/-- The program has acted. -/
theorem RT.act {H G : AH} {w t j : Nat} {cp : Cap} {N : List ND} {D : DT} (h : RT H w D) (hT : TreM H t j cp N) (hf : Fr H G t j) : RT G w D := by
  have hw := hT.kinds h.hw (by decide) (by decide)
  refine h.frame (hf w (List.getElem?_eq_some_iff.1 h.hw).1 hw.1 hw.2) fun m hm => ?_
  obtain ⟨c, hc⟩ := h.has.kind m hm
  have hm' := hT.kinds hc (by decide) (by decide)
  exact hf m (h.has.lt m hm) hm'.1 hm'.2
/-- The document has acted. -/
theorem TreM.ract {H G : AH} {t j : Nat} {cp : Cap} {N : List ND} {w : Nat} {D : DT} (h : TreM H t j cp N) (hR : RT H w D) (hk : ∀ m, m < H.length → m ∉ D.ads → G[m]? = H[m]?) : TreM G t j cp N := by
  have key : ∀ m, m ∈ D.ads → m ≠ t ∧ m ≠ j := fun m hm => by
    obtain ⟨c, hc⟩ := hR.has.kind m hm
    exact h.kinds hc (by decide) (by decide)
  exact h.frame (hk t h.tlt fun hm => (key t hm).1 rfl) (hk j h.jlt fun hm => (key j hm).2 rfl)
end Go.Proofs.Ytbcfhiohdamcjaa.Tr
