/- The document's tree, where it lies: what it has, its panes, how it is told. -/
import Derived.Test.YtffmpomidfickaaTrPure4
import Derived.Test.YtffmpomidfickaaTrPanes
namespace Go.Proofs.Ytffmpomidfickaa.Tr
open Go Go.RowKit Am
set_option maxRecDepth 100000
set_option maxHeartbeats 1000000
set_option linter.unusedSimpArgs false
set_option linter.unusedVariables false
attribute [-simp] Am.binEv Am.intBin Am.read1
attribute [local simp] binEv_lss binEv_leq binEv_gtr binEv_geq binEv_eql binEv_neq binEv_add binEv_sub binEv_mul read1_ro read1_mu
variable {R : Ro}
open PT
inductive DT where
  | leaf (x : Nat) (p : PA)
  | split (x : Nat) (sd sh : Int) (a b : DT)
namespace DT
def ad : DT → Nat
  | leaf x _ => x
  | split x _ _ _ _ => x
def ads : DT → List Nat
  | leaf x _ => [x]
  | split x _ _ a b => x :: (a.ads ++ b.ads)
def shape : DT → PT
  | leaf _ p => .leaf p
  | split _ sd sh a b => .split sd sh a.shape b.shape
def find (p : PA) : DT → Option Nat
  | leaf x r => if r = p then some x else none
  | split _ _ _ a b => match a.find p with
    | some y => some y
    | none => b.find p
end DT
open DT
def rleaf (p : PA) : List AV := [.int .i64 0, .int .i64 0, .nilptr, .nilptr, .int .i64 p.a, .int .i64 p.b, .int .i64 p.c]
def rsplit (sd sh : Int) (x y : Nat) : List AV := [.int .i64 sd, .int .i64 sh, .ptr (.mu x) 0, .ptr (.mu y) 0, .int .i64 0, .int .i64 0, .int .i64 0]
def HasD (H : AH) : DT → Prop
  | .leaf x p => H[x]? = some (.cells (rleaf p) 75)
  | .split x sd sh a b => H[x]? = some (.cells (rsplit sd sh a.ad b.ad) 75) ∧ HasD H a ∧ HasD H b
theorem HasD.frame {H G : AH} : ∀ {D : DT}, HasD H D → (∀ m ∈ D.ads, G[m]? = H[m]?) → HasD G D
  | .leaf x p, h, hk => by
    simp only [HasD] at h ⊢
    rw [hk x (by simp [DT.ads])]; exact h
  | .split x sd sh a b, ⟨h1, h2, h3⟩, hk => by
    refine ⟨?_, h2.frame fun m hm => hk m (by simp [DT.ads, hm]), h3.frame fun m hm => hk m (by simp [DT.ads, hm])⟩
    rw [hk x (by simp [DT.ads])]; exact h1
theorem HasD.lt {H : AH} : ∀ {D : DT}, HasD H D → ∀ m ∈ D.ads, m < H.length
  | .leaf x p, h, m, hm => by
    simp [DT.ads] at hm; subst hm; exact (List.getElem?_eq_some_iff.1 h).1
  | .split x sd sh a b, ⟨h1, h2, h3⟩, m, hm => by
    simp only [DT.ads, List.mem_cons, List.mem_append] at hm
    rcases hm with rfl | hm | hm
    · exact (List.getElem?_eq_some_iff.1 h1).1
    · exact h2.lt m hm
    · exact h3.lt m hm
theorem HasD.kind {H : AH} : ∀ {D : DT}, HasD H D → ∀ m ∈ D.ads, ∃ c, H[m]? = some (.cells c 75)
  | .leaf x p, h, m, hm => by
    simp [DT.ads] at hm; subst hm; exact ⟨_, h⟩
  | .split x sd sh a b, ⟨h1, h2, h3⟩, m, hm => by
    simp only [DT.ads, List.mem_cons, List.mem_append] at hm
    rcases hm with rfl | hm | hm
    · exact ⟨_, h1⟩
    · exact h2.kind m hm
    · exact h3.kind m hm
theorem HasD.app {H : AH} {D : DT} (h : HasD H D) (X : AH) : HasD (H ++ X) D :=
  h.frame fun m hm => List.getElem?_append_left (h.lt m hm)
theorem find_pos {p : PA} : ∀ {D : DT}, D.find p = none ↔ D.shape.pos p = none
  | .leaf x r => by simp [DT.find, DT.shape, pos]
  | .split x sd sh a b => by
    have ha := find_pos (p := p) (D := a)
    have hb := find_pos (p := p) (D := b)
    simp only [DT.find, DT.shape, pos]
    cases h1 : a.find p with
    | some y =>
      cases h2 : a.shape.pos p with
      | some i => simp
      | none => rw [ha.2 h2] at h1; cases h1
    | none =>
      rw [ha.1 h1]
      simp [hb]
theorem ad_mem (D : DT) : D.ad ∈ D.ads := by cases D <;> simp [DT.ad, DT.ads]
def optP : Option Nat → AV
  | some x => .ptr (.mu x) 0
  | none => .nilptr
def lowV (n : Nat) : AV → Bool
  | .ptr (.mu i) _ => decide (i < n)
  | v => (ren [] v).isSome
/-- As gc, of a pointer to what was there. -/
theorem ACalls.gcP {P : Program} {R : Ro} {f : FuncId} {args : List AV} {H : AH} {K : AV → Prop} (h : ACalls P R f args H fun v H' => (∃ G, H' = H ++ G) ∧ lowV H.length v = true ∧ K v) : ACalls P R f args H fun v H' => H' = H ∧ K v := by
  intro base hR ρ w Vs hrel hV
  refine (h base hR ρ w Vs hrel hV).mono ?_
  rintro e w' ⟨v, V, ρ', H', rfl, hx, hr, hv, ⟨G, rfl⟩, hs, hk⟩
  have key : ren ρ v = some V := by
    have gen : (ren [] v).isSome = true → ren ρ v = some V := fun hs => by
      obtain ⟨V0, h0⟩ := Option.isSome_iff_exists.1 hs
      have h1 := ren_ext (ρ' := ρ') ⟨ρ', by simp⟩ h0
      rw [hv] at h1; cases h1
      exact ren_ext ⟨ρ, by simp⟩ h0
    cases v with
    | ptr l o =>
      cases l with
      | mu i =>
        simp only [lowV, decide_eq_true_eq] at hs
        rw [← hrel.len] at hs
        obtain ⟨x, rfl⟩ := hx
        simp only [ren, Loc.addr] at hv ⊢
        rw [List.getElem?_append_left hs] at hv
        exact hv
      | ro b => exact gen hs
    | _ => exact gen hs
  exact ⟨v, V, ρ, H, rfl, Ext.refl _, hrel.back hr hx, key, rfl, hk⟩
theorem find_ads {p : PA} : ∀ {D : DT} {y : Nat}, D.find p = some y → y ∈ D.ads
  | .leaf x r, y, h => by
    simp only [DT.find] at h
    split at h <;> cases h
    simp [DT.ads]
  | .split x sd sh a b, y, h => by
    simp only [DT.find] at h
    split at h
    · rename_i z hz
      cases h
      simp [DT.ads, find_ads hz]
    · simp [DT.ads, find_ads h]
theorem low_find {H : AH} {D : DT} (h : HasD H D) (p : PA) : lowV H.length (optP (D.find p)) = true := by
  cases hf : D.find p with
  | none => rfl
  | some y => simp [optP, lowV]; exact h.lt y (find_ads hf)
theorem find_ok (p : PA) : ∀ {D : DT} {H : AH}, D.shape.sides → HasD H D → ACalls Try.prog R 39 [.ptr (.mu D.ad) 0, p.av] H fun v G => G = H ∧ v = optP (D.find p)
  | .leaf x r, H, _, h => by
    have hlow := low_find h p
    refine ACalls.gcP ?_
    refine ACalls.of_wpE Fns.ok39 (by simp [Fns.a39]) ?_
    have he := eqP r.a r.b r.c p.a p.b p.c
    simp only [fieldsP] at he
    simp only [HasD, rleaf] at h
    have h1 : (H ++ [AO.cells [AV.int .i64 p.a, .int .i64 p.b, .int .i64 p.c] 25])[x]? = _ := get_app h
    simp [Fns.a39, PA.av, PA.cells, DT.ad, h1, AO.content]
    refine AWp.sched [0, 1, 2, 3, 4, 5] Fns.mixed (by decide +kernel) ?_
    simp [-eqEv, h1, AO.content, readN, he]
    have hd : (decide (r.a = p.a) && (decide (r.b = p.b) && decide (r.c = p.c))) = decide (r = p) := by
      rw [Bool.eq_iff_iff]; simp [PA.eq]
    rw [hd]
    by_cases hp : r = p
    · simp only [DT.find, hp, if_true] at hlow
      simp [hp, DT.find, optP, ren]
      exact hlow
    · simp [hp, DT.find, optP, ren, lowV]
  | .split x sd sh a b, H, ⟨s1, _, _, sa, sb⟩, ⟨h, ha, hb⟩ => by
    have hlow := low_find (D := .split x sd sh a b) ⟨h, ha, hb⟩ p
    refine ACalls.gcP ?_
    refine ACalls.of_wpE Fns.ok39 (by simp [Fns.a39]) ?_
    have s0 : ¬ sd = 0 := by omega
    simp only [rsplit] at h
    have h1 : (H ++ [AO.cells [AV.int .i64 p.a, .int .i64 p.b, .int .i64 p.c] 25])[x]? = _ := get_app h
    have fa := find_ok p sa (ha.app [AO.cells [AV.int .i64 p.a, .int .i64 p.b, .int .i64 p.c] 25])
    have fb := find_ok p sb (hb.app [AO.cells [AV.int .i64 p.a, .int .i64 p.b, .int .i64 p.c] 25])
    simp only [PA.av, PA.cells] at fa fb
    simp [Fns.a39, PA.av, PA.cells, DT.ad, h1, AO.content, s0]
    refine AWp.sched [0, 1, 2, 3, 4, 5, 6] Fns.mixed (by decide +kernel) ?_
    simp [h1, AO.content, readN]
    refine fa.mono ?_
    rintro v G ⟨rfl, rfl⟩
    cases hfa : a.find p with
    | some y =>
      simp only [DT.find, hfa, optP] at hlow
      simp [recheck, h1, AO.content, readN, optP, eqEv, ren, DT.find, hfa]
      exact hlow
    | none =>
      simp [recheck, h1, AO.content, readN, optP, eqEv]
      refine AWp.sched [0, 1, 2, 3, 4, 5, 6] Fns.mixed (by decide +kernel) ?_
      simp [h1, AO.content, readN]
      refine fb.mono ?_
      rintro v G ⟨rfl, rfl⟩
      simp only [DT.find, hfa] at hlow
      simp [recheck, h1, AO.content, readN, ren, DT.find, hfa]
      exact ⟨hlow, by cases b.find p <;> rfl⟩
/-- A tree of the document's. -/
structure RT (H : AH) (w : Nat) (D : DT) : Prop where
  hw : H[w]? = some (.cells [.ptr (.mu D.ad) 0] 45)
  has : HasD H D
  nodup : D.ads.Nodup
theorem RT.app {H : AH} {w : Nat} {D : DT} (h : RT H w D) (X : AH) : RT (H ++ X) w D := ⟨get_app h.hw, h.has.app X, h.nodup⟩
theorem rhas_ok {H : AH} {w : Nat} {D : DT} (h : RT H w D) (hs : D.shape.sides) (p : PA) : ACalls Try.prog R 19 [.ptr (.mu w) 0, p.av] H fun v G => G = H ∧ v = .bool (decide (D.shape.pos p ≠ none)) := by
  refine ACalls.gc ?_
  refine ACalls.of_wpE Fns.ok19 (by simp [Fns.a19]) ?_
  have h1 := h.app [AO.cells [AV.int .i64 p.a, .int .i64 p.b, .int .i64 p.c] 25]
  have fa := find_ok (R := R) p hs h1.has
  have hw := h1.hw
  simp only [PA.av, PA.cells] at fa
  simp [Fns.a19, PA.av, PA.cells]
  refine AWp.sched [0, 1, 2, 3, 4, 5, 6, 7] Fns.mixed (by decide +kernel) ?_
  simp [hw, AO.content, readN]
  refine fa.mono ?_
  rintro v G ⟨rfl, rfl⟩
  have := find_pos (p := p) (D := D)
  cases hf : D.find p with
  | none => simp [recheck, hw, AO.content, readN, optP, eqEv, ren, this.1 hf]
  | some y =>
    have hn : D.shape.pos p ≠ none := fun e => by rw [this.2 e] at hf; cases hf
    simp [recheck, hw, AO.content, readN, optP, eqEv, ren, hn]
/-! ### Slices that are gathered -/
structure GRow (ty sz : Nat) (H : AH) (v : AV) (G : AH) (C : List AV) (n : Nat) : Prop where
  old : ∀ i, i < H.length → G[i]? = H[i]?
  len : H.length ≤ G.length
  cl : C.length = n * sz
  one : C.all AV.oneCell = true
  row : ∃ r cp, v = .slice (.mu r) 0 n cp ∧ H.length ≤ r ∧ ((cp = .opn 0 ∧ G[r]? = some (.row C ty sz)) ∨ (cp = .known n ∧ G[r]? = some (.cells C ty)))
theorem grow_app {ty sz by' : Nat} {H G1 G2 : AH} {v1 v2 : AV} {C1 C2 : List AV} {n1 n2 : Nat} (h1 : GRow ty sz H v1 G1 C1 n1) (h2 : GRow ty sz G1 v2 G2 C2 n2) (hn2 : 0 < n2) (hsz : sz ≠ 0) (hby : by' ≠ 0) (hfit : (n1 + n2) * by' ≤ 140737488355328) :
    ∃ v3 G3, appendEv R G2 ty sz by' v1 v2 = some (v3, G3) ∧ GRow ty sz H v3 G3 (C1 ++ C2) (n1 + n2) := by
  obtain ⟨r1, c1, rfl, hr1, hk1⟩ := h1.row
  obtain ⟨r2, c2, rfl, hr2, hk2⟩ := h2.row
  have hl1 : r1 < G1.length := by rcases hk1 with ⟨_, h⟩ | ⟨_, h⟩ <;> exact (List.getElem?_eq_some_iff.1 h).1
  have hl2 : r2 < G2.length := by rcases hk2 with ⟨_, h⟩ | ⟨_, h⟩ <;> exact (List.getElem?_eq_some_iff.1 h).1
  have hold := h2.old r1 hl1
  have hlen := h1.len
  have hlen2 := h2.len
  have hc1 := h1.cl
  have hc2 := h2.cl
  have hsrc : srcEv R G2 sz (.slice (.mu r2) 0 n2 c2) = some (C2, n2) := by
    have hb : (G2[r2]?).bind AO.content = some C2 := by rcases hk2 with ⟨_, h⟩ | ⟨_, h⟩ <;> rw [h] <;> rfl
    simp only [srcEv, readN, hb]
    rw [if_pos (by omega), List.drop_zero, ← hc2, List.take_length]; rfl
  have hall : (C1 ++ C2).all AV.oneCell = true := by rw [List.all_append, h1.one, h2.one]; rfl
  have hlC : (C1 ++ C2).length = (n1 + n2) * sz := by rw [List.length_append, hc1, hc2, Nat.add_mul]
  have hpos : 0 < n2 * sz := Nat.mul_pos hn2 (Nat.pos_of_ne_zero hsz)
  rcases hk1 with ⟨rfl, hg⟩ | ⟨rfl, hg⟩
  · refine ⟨.slice (.mu G2.length) 0 (n1 + n2) (.opn 0), G2.set r1 .dead ++ [.row (C1 ++ C2) ty sz], ?_, ?_⟩
    · simp only [appendEv, hsrc]
      rw [if_pos ⟨hfit, hsz, hby, h2.one⟩, hold, hg]
      simp only
      rw [if_pos ⟨trivial, trivial, by omega, by omega⟩, if_neg (by rw [Nat.add_mul]; omega), List.drop_zero, List.take_of_length_le (by omega)]
    · refine ⟨fun i hi => ?_, by simp; omega, hlC, hall, G2.length, .opn 0, rfl, by omega, .inl ⟨rfl, by rw [List.getElem?_append_right (by simp)]; simp⟩⟩
      rw [List.getElem?_append_left (by simp; omega), List.getElem?_set_ne (by omega), h2.old i (by omega), h1.old i hi]
  · refine ⟨.slice (.mu G2.length) 0 (n1 + n2) (.opn 0), G2 ++ [.row (C1 ++ C2) ty sz], ?_, ?_⟩
    · simp only [appendEv, hsrc]
      rw [if_pos ⟨hfit, hsz, hby, h2.one⟩, if_neg (by omega)]
      simp only [readN, hold, hg, Option.bind_some, AO.content, Nat.zero_add, List.drop_zero]
      rw [if_pos (by omega), List.take_of_length_le (by omega)]
    · refine ⟨fun i hi => ?_, by simp; omega, hlC, hall, G2.length, .opn 0, rfl, by omega, .inl ⟨rfl, by simp⟩⟩
      rw [List.getElem?_append_left (by omega), h2.old i (by omega), h1.old i hi]
def paL : List PA → List AV
  | [] => []
  | p :: l => p.cells ++ paL l
theorem paL_app : ∀ (a b : List PA), paL (a ++ b) = paL a ++ paL b
  | [], b => rfl
  | p :: a, b => by simp [paL, paL_app a b]
theorem paV_paL : ∀ (N : List ND), paV N = paL (N.map ND.pa)
  | [] => rfl
  | x :: N => by simp [paV, paL, ND.pane, ND.pa, PA.cells, paV_paL N]
theorem rpanes_ok : ∀ {D : DT} {H : AH}, D.shape.sides → HasD H D → D.shape.panes.length ≤ 1000 → ACalls Try.prog R 21 [.ptr (.mu D.ad) 0] H fun v G => GRow 25 3 H v G (paL D.shape.panes) D.shape.panes.length
  | .leaf x p, H, _, h, _ => by
    refine ACalls.of_wpE Fns.ok21 (by simp [Fns.a21]) ?_
    simp only [HasD, rleaf] at h
    simp [Fns.a21, DT.ad, h, AO.content, readN, splice, zerosEv, fillA]
    exact ⟨fun i hi => List.getElem?_append_left hi, by simp, rfl, rfl, H.length, .known 1, rfl, Nat.le_refl _, .inr ⟨rfl, by simp [paL, PT.panes, DT.shape, PA.cells]⟩⟩
  | .split x sd sh a b, H, ⟨s1, _, _, sa, sb⟩, ⟨h, ha, hb⟩, hl => by
    refine ACalls.of_wpE Fns.ok21 (by simp [Fns.a21]) ?_
    have s0 : ¬ sd = 0 := by omega
    simp only [rsplit] at h
    simp only [DT.shape, PT.panes, List.length_append] at hl ⊢
    have pb := panes_size b.shape
    simp [Fns.a21, DT.ad, h, AO.content, s0]
    refine AWp.sched [0, 1, 2, 3, 5, 6, 7, 8, 4, 9, 10, 11] Fns.mixed (by decide +kernel) ?_
    simp [h, AO.content, readN]
    refine (rpanes_ok sa ha (by omega)).mono ?_
    intro v1 G1 q1
    have h1 : G1[x]? = _ := (q1.old x (List.getElem?_eq_some_iff.1 h).1).trans h
    simp [recheck, h, h1, AO.content, readN]
    refine (rpanes_ok sb (hb.frame fun m hm => q1.old m (hb.lt m hm)) (by omega)).mono ?_
    intro v2 G2 q2
    obtain ⟨v3, G3, e3, q3⟩ := grow_app (R := R) (by' := 24) q1 q2 (by omega) (by decide) (by decide) (by omega)
    simp [recheck, e3]
    rw [paL_app]; exact q3
/-- A gathered slice, where it lies. -/
structure RowA (ty sz : Nat) (G : AH) (r : Nat) (v : AV) (C : List AV) (n : Nat) : Prop where
  cl : C.length = n * sz
  one : C.all AV.oneCell = true
  row : ∃ cp, v = .slice (.mu r) 0 n cp ∧ ((cp = .opn 0 ∧ G[r]? = some (.row C ty sz)) ∨ (cp = .known n ∧ G[r]? = some (.cells C ty)))
theorem RowA.keep {ty sz : Nat} {G G' : AH} {r : Nat} {v : AV} {C : List AV} {n : Nat} (h : RowA ty sz G r v C n) (hk : G'[r]? = G[r]?) : RowA ty sz G' r v C n := by
  obtain ⟨cp, h1, h2⟩ := h.row
  exact ⟨h.cl, h.one, cp, h1, by rw [hk]; exact h2⟩
theorem RowA.lt {ty sz : Nat} {G : AH} {r : Nat} {v : AV} {C : List AV} {n : Nat} (h : RowA ty sz G r v C n) : r < G.length := by
  obtain ⟨cp, h1, h2⟩ := h.row
  rcases h2 with ⟨_, h⟩ | ⟨_, h⟩ <;> exact (List.getElem?_eq_some_iff.1 h).1
theorem RowA.len {P : Program} {ty sz : Nat} {G G' : AH} {r : Nat} {v : AV} {C : List AV} {n : Nat} (h : RowA ty sz G r v C n) : (AOp.lenL (.t 0)).eval P R (fun _ => v) G' = some (.int .i64 n, G') := by
  obtain ⟨cp, rfl, _⟩ := h.row
  rfl
theorem GRow.rowA {ty sz : Nat} {H G : AH} {v : AV} {C : List AV} {n : Nat} (h : GRow ty sz H v G C n) : ∃ r, H.length ≤ r ∧ RowA ty sz G r v C n := by
  obtain ⟨r, cp, h1, h2, h3⟩ := h.row
  exact ⟨r, h2, h.cl, h.one, cp, h1, h3⟩
theorem rowA_app {ty sz by' : Nat} {G : AH} {r1 r2 : Nat} {v1 v2 : AV} {C1 C2 : List AV} {n1 n2 : Nat} (h1 : RowA ty sz G r1 v1 C1 n1) (h2 : RowA ty sz G r2 v2 C2 n2) (hn2 : 0 < n2) (hsz : sz ≠ 0) (hby : by' ≠ 0) (hfit : (n1 + n2) * by' ≤ 140737488355328) :
    ∃ v3 G3, appendEv R G ty sz by' v1 v2 = some (v3, G3) ∧ RowA ty sz G3 G.length v3 (C1 ++ C2) (n1 + n2) ∧ G3.length = G.length + 1 ∧ ∀ i, i < G.length → i ≠ r1 → G3[i]? = G[i]? := by
  have hl1 := h1.lt
  have hc1 := h1.cl
  have hc2 := h2.cl
  obtain ⟨c1, rfl, hk1⟩ := h1.row
  obtain ⟨c2, rfl, hk2⟩ := h2.row
  have hsrc : srcEv R G sz (.slice (.mu r2) 0 n2 c2) = some (C2, n2) := by
    have hb : (G[r2]?).bind AO.content = some C2 := by rcases hk2 with ⟨_, h⟩ | ⟨_, h⟩ <;> rw [h] <;> rfl
    simp only [srcEv, readN, hb]
    rw [if_pos (by omega), List.drop_zero, ← hc2, List.take_length]; rfl
  have hall : (C1 ++ C2).all AV.oneCell = true := by rw [List.all_append, h1.one, h2.one]; rfl
  have hlC : (C1 ++ C2).length = (n1 + n2) * sz := by rw [List.length_append, hc1, hc2, Nat.add_mul]
  have hpos : 0 < n2 * sz := Nat.mul_pos hn2 (Nat.pos_of_ne_zero hsz)
  rcases hk1 with ⟨rfl, hg⟩ | ⟨rfl, hg⟩
  · refine ⟨.slice (.mu G.length) 0 (n1 + n2) (.opn 0), G.set r1 .dead ++ [.row (C1 ++ C2) ty sz], ?_, ?_⟩
    · simp only [appendEv, hsrc]
      rw [if_pos ⟨hfit, hsz, hby, h2.one⟩, hg]
      simp only
      rw [if_pos ⟨trivial, trivial, by omega, by omega⟩, if_neg (by rw [Nat.add_mul]; omega), List.drop_zero, List.take_of_length_le (by omega)]
    · refine ⟨⟨hlC, hall, .opn 0, rfl, .inl ⟨rfl, by rw [List.getElem?_append_right (by simp)]; simp⟩⟩, by simp, fun i hi hne => ?_⟩
      rw [List.getElem?_append_left (by simp; omega), List.getElem?_set_ne (Ne.symm hne)]
  · refine ⟨.slice (.mu G.length) 0 (n1 + n2) (.opn 0), G ++ [.row (C1 ++ C2) ty sz], ?_, ?_⟩
    · simp only [appendEv, hsrc]
      rw [if_pos ⟨hfit, hsz, hby, h2.one⟩, if_neg (by omega)]
      simp only [readN, hg, Option.bind_some, AO.content, Nat.zero_add, List.drop_zero]
      rw [if_pos (by omega), List.take_of_length_le (by omega)]
    · exact ⟨⟨hlC, hall, .opn 0, rfl, .inl ⟨rfl, by simp⟩⟩, by simp, fun i hi hne => List.getElem?_append_left hi⟩
end Go.Proofs.Ytffmpomidfickaa.Tr
