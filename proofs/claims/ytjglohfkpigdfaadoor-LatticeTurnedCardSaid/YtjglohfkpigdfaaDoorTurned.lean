/- A table turned over makes a lattice exactly if the table does: what the law's code computes. -/
import Derived.Test.YtjglohfkpigdfaaDoorLaws
namespace Go.Proofs.YtjglohfkpigdfaaDoor.Turned
open Go Go.RowKit Am Latt
set_option maxRecDepth 100000
set_option linter.unusedSimpArgs false
set_option linter.unusedVariables false
attribute [-simp] Am.binEv Am.intBin Am.read1
attribute [local simp] binEv_lss binEv_leq binEv_gtr binEv_geq binEv_eql binEv_neq binEv_add binEv_sub binEv_mul binEv_shr58 read1_ro read1_mu
variable {R : Ro}
/-- A table of a question. -/
def tabF (F : Nat → Nat → Bool) (n : Nat) : List (List Bool) := (List.range n).map fun x => (List.range n).map (F x)
theorem tabF_len (F : Nat → Nat → Bool) (n : Nat) : (tabF F n).length = n := by simp [tabF]
theorem tabF_get (F : Nat → Nat → Bool) {n x : Nat} (h : x < n) : (tabF F n)[x]? = some ((List.range n).map (F x)) := by simp [tabF, h]
theorem tabF_tb (F : Nat → Nat → Bool) {n x y : Nat} (hx : x < n) (hy : y < n) : tb (tabF F n) x y = F x y := by
  unfold tb
  rw [tabF_get F hx]
  simp [hy]
def rowF (F : Nat → Nat → Bool) (x k : Nat) : List AV := (List.range k).map fun y => AV.bool (F x y)
theorem rowF_len (F : Nat → Nat → Bool) (x k : Nat) : (rowF F x k).length = k := by simp [rowF]
theorem rowF_succ (F : Nat → Nat → Bool) (x k : Nat) : rowF F x (k + 1) = rowF F x k ++ [.bool (F x k)] := by simp [rowF, List.range_succ]
/-- The table, half made. -/
structure HalfF (H0 H : AH) (t n : Nat) (F : Nat → Nat → Bool) (a b : Nat) (rows : List AV) (f : Nat → Nat) : Prop where
  tbl : H[t]? = some (.cells rows 26)
  len : rows.length = n
  row : ∀ x, x < n → (upto n a b x = 0 ∧ rows[x]? = some .nilslice) ∨ (0 < upto n a b x ∧ rows[x]? = some (.slice (.mu (f x)) 0 (upto n a b x) (.opn 0)) ∧ H[f x]? = some (.row (rowF F x (upto n a b x)) 4 1) ∧ H0.length ≤ f x ∧ f x ≠ t)
  inj : ∀ x y, x < n → y < n → 0 < upto n a b x → 0 < upto n a b y → x ≠ y → f x ≠ f y
  keeps : Keeps H0 H
  low : H0.length ≤ t
theorem HalfF.next {H0 H : AH} {t n a : Nat} {F : Nat → Nat → Bool} {rows : List AV} {f : Nat → Nat} (h : HalfF H0 H t n F a n rows f) : HalfF H0 H t n F (a + 1) 0 rows f := by
  obtain ⟨h1, h2, h3, h4, h5, h6⟩ := h
  refine ⟨h1, h2, fun x hx => ?_, fun x y hx hy => ?_, h5, h6⟩
  · rw [← upto_row]; exact h3 x hx
  · rw [← upto_row, ← upto_row]; exact h4 x y hx hy
/-- One more of row 'a': where the new row lies at the heap's end. -/
theorem HalfF.step {H0 H H' : AH} {t n a b : Nat} {F : Nat → Nat → Bool} {rows : List AV} {f : Nat → Nat} (h : HalfF H0 H t n F a b rows f) (ha : a < n) (hb : b < n) {k : Nat}
    (hk : H0.length ≤ k) (hkt : k ≠ t) (hnew : H'[k]? = some (.row (rowF F a (b + 1)) 4 1)) (htb : H'[t]? = some (.cells (rows.set a (.slice (.mu k) 0 (b + 1) (.opn 0))) 26))
    (hfr : ∀ x, x < n → x ≠ a → 0 < upto n a b x → H'[f x]? = H[f x]? ∧ f x ≠ k) (hke : Keeps H0 H') : HalfF H0 H' t n F a (b + 1) (rows.set a (.slice (.mu k) 0 (b + 1) (.opn 0))) (fun x => if x = a then k else f x) := by
  refine ⟨htb, by simp [h.len], fun x hx => ?_, fun x y hx hy h1 h2 hxy => ?_, hke, h.low⟩
  · by_cases hxa : x = a
    · subst hxa
      right
      rw [upto_here]
      refine ⟨by omega, ?_, by simpa using hnew, by simpa using hk, by simpa using hkt⟩
      rw [List.getElem?_set, if_pos rfl, if_pos (by rw [h.len]; exact hx)]; simp
    · rw [upto_succ, if_neg hxa, List.getElem?_set, if_neg (Ne.symm hxa)]
      rcases h.row x hx with h1 | ⟨h1, h2, h3, h4, h5⟩
      · exact .inl h1
      · right
        simp only [if_neg hxa]
        exact ⟨h1, h2, by rw [(hfr x hx hxa h1).1]; exact h3, h4, h5⟩
  · rw [upto_succ] at h1 h2
    by_cases hxa : x = a
    · subst hxa
      have hya : ¬ y = x := fun e => hxy e.symm
      rw [if_neg hya] at h2
      simp only [if_pos rfl, if_neg hya]
      exact Ne.symm (hfr y hy hya h2).2
    · rw [if_neg hxa] at h1
      simp only [if_neg hxa]
      by_cases hya : y = a
      · rw [if_pos hya]; exact (hfr x hx hxa h1).2
      · rw [if_neg hya] at h2 ⊢
        exact h.inj x y hx hy h1 h2 hxy
theorem HalfF.tab {H0 H : AH} {t n : Nat} {F : Nat → Nat → Bool} {rows : List AV} {f : Nat → Nat} (h : HalfF H0 H t n F n 0 rows f) (hn : 0 < n) : TabIn R H (.slice (.mu t) 0 n (.known n)) (tabF F n) := by
  refine ⟨rows, sees_cells h.tbl h.len.symm, by rw [h.len, tabF_len], fun i r' hr' => ?_⟩
  have hi : i < n := by have := (List.getElem?_eq_some_iff.1 hr').1; rw [tabF_len] at this; exact this
  rw [tabF_get F hi] at hr'
  cases hr'
  have hu : upto n n 0 i = n := by unfold upto; rw [if_pos hi]
  rcases h.row i hi with ⟨h1, _⟩ | ⟨_, h2, h3, _, _⟩
  · rw [hu] at h1; omega
  · rw [hu] at h2 h3
    refine ⟨_, h2, .inl (.inr ⟨.mu (f i), 0, .opn 0, by simp, fun j x hx => ?_⟩)⟩
    rw [read1_mu, h3]
    simpa [rowF, Function.comp_def] using hx
/-! ### A table turned over -/
def turn (T : List (List Bool)) : List (List Bool) := tabF (fun x y => tb T y x) T.length
theorem turn_len (T : List (List Bool)) : (turn T).length = T.length := tabF_len ..
theorem turn_tb {T : List (List Bool)} {x y : Nat} (hx : x < T.length) (hy : y < T.length) : tb (turn T) x y = tb T y x := tabF_tb _ hx hy
theorem turn_sq (T : List (List Bool)) : ∀ r ∈ turn T, r.length = (turn T).length := by
  intro r hr
  rw [turn_len]
  unfold turn tabF at hr
  simp at hr
  obtain ⟨x, _, rfl⟩ := hr
  simp
theorem lub_turn {T : List (List Bool)} {a b x : Nat} (ha : a < T.length) (hb : b < T.length) : LubT (turn T) a b x ↔ GlbT T a b x := by
  unfold LubT GlbT
  rw [turn_len]
  constructor
  · rintro ⟨h1, h2, h3, h4⟩
    rw [turn_tb ha h1] at h2; rw [turn_tb hb h1] at h3
    exact ⟨h1, h2, h3, fun y hy k1 k2 => by have := h4 y hy (by rw [turn_tb ha hy]; exact k1) (by rw [turn_tb hb hy]; exact k2); rwa [turn_tb h1 hy] at this⟩
  · rintro ⟨h1, h2, h3, h4⟩
    exact ⟨h1, by rw [turn_tb ha h1]; exact h2, by rw [turn_tb hb h1]; exact h3, fun y hy k1 k2 => by rw [turn_tb ha hy] at k1; rw [turn_tb hb hy] at k2; rw [turn_tb h1 hy]; exact h4 y hy k1 k2⟩
theorem glb_turn {T : List (List Bool)} {a b x : Nat} (ha : a < T.length) (hb : b < T.length) : GlbT (turn T) a b x ↔ LubT T a b x := by
  unfold LubT GlbT
  rw [turn_len]
  constructor
  · rintro ⟨h1, h2, h3, h4⟩
    rw [turn_tb h1 ha] at h2; rw [turn_tb h1 hb] at h3
    exact ⟨h1, h2, h3, fun y hy k1 k2 => by have := h4 y hy (by rw [turn_tb hy ha]; exact k1) (by rw [turn_tb hy hb]; exact k2); rwa [turn_tb hy h1] at this⟩
  · rintro ⟨h1, h2, h3, h4⟩
    exact ⟨h1, by rw [turn_tb h1 ha]; exact h2, by rw [turn_tb h1 hb]; exact h3, fun y hy k1 k2 => by rw [turn_tb hy ha] at k1; rw [turn_tb hy hb] at k2; rw [turn_tb hy h1]; exact h4 y hy k1 k2⟩
theorem good_po {T : List (List Bool)} (g : GoodT T) : PO T :=
  ⟨fun a h => g.refl h, fun a b ha hb => g.anti ha hb, fun a b c ha hb hc => g.trans ha hb hc, fun a b ha hb => ⟨_, jn_lub g ha hb⟩, fun a b ha hb => ⟨_, mt_glb g ha hb⟩⟩
theorem good_turn {T : List (List Bool)} (g : GoodT T) : GoodT (turn T) := by
  have p := good_po g
  have hl := turn_len T
  refine PO.good ⟨fun a h => ?_, fun a b ha hb h1 h2 => ?_, fun a b c ha hb hc h1 h2 => ?_, fun a b ha hb => ?_, fun a b ha hb => ?_⟩ (by rw [hl]; exact g.lo) (by rw [hl]; exact g.hi) (turn_sq T)
  · rw [hl] at h; rw [turn_tb h h]; exact p.refl a h
  · rw [hl] at ha hb; rw [turn_tb ha hb] at h1; rw [turn_tb hb ha] at h2; exact p.anti a b ha hb h2 h1
  · rw [hl] at ha hb hc; rw [turn_tb ha hb] at h1; rw [turn_tb hb hc] at h2; rw [turn_tb ha hc]; exact p.trans c b a hc hb ha h2 h1
  · rw [hl] at ha hb; obtain ⟨x, hx⟩ := p.glb a b ha hb; exact ⟨x, (lub_turn ha hb).2 hx⟩
  · rw [hl] at ha hb; obtain ⟨x, hx⟩ := p.lub a b ha hb; exact ⟨x, (glb_turn ha hb).2 hx⟩
theorem turn_good {T : List (List Bool)} (hsq : SqT T) (g : GoodT (turn T)) : GoodT T := by
  have p := good_po g
  have hl := turn_len T
  refine PO.good ⟨fun a h => ?_, fun a b ha hb h1 h2 => ?_, fun a b c ha hb hc h1 h2 => ?_, fun a b ha hb => ?_, fun a b ha hb => ?_⟩ (by rw [← hl]; exact g.lo) (by rw [← hl]; exact g.hi) hsq
  · have := p.refl a (by rw [hl]; exact h); rwa [turn_tb h h] at this
  · exact p.anti a b (by rw [hl]; exact ha) (by rw [hl]; exact hb) (by rw [turn_tb ha hb]; exact h2) (by rw [turn_tb hb ha]; exact h1)
  · have := p.trans c b a (by rw [hl]; exact hc) (by rw [hl]; exact hb) (by rw [hl]; exact ha) (by rw [turn_tb hc hb]; exact h2) (by rw [turn_tb hb ha]; exact h1)
    rwa [turn_tb hc ha] at this
  · obtain ⟨x, hx⟩ := p.glb a b (by rw [hl]; exact ha) (by rw [hl]; exact hb); exact ⟨x, (glb_turn ha hb).1 hx⟩
  · obtain ⟨x, hx⟩ := p.lub a b (by rw [hl]; exact ha) (by rw [hl]; exact hb); exact ⟨x, (lub_turn ha hb).1 hx⟩
theorem tbI_turn (T : List (List Bool)) (a b : Int) : tbI (turn T) b a = tbI T a b := by
  unfold tbI
  rw [turn_len]
  cases ha : isL T.length a with
  | false => cases isL T.length b <;> rfl
  | true => cases hb : isL T.length b with
    | false => rfl
    | true =>
      obtain ⟨x, rfl, hx⟩ := isL_nat ha
      obtain ⟨y, rfl, hy⟩ := isL_nat hb
      simp [turn_tb hy hx]
theorem mtI_turn {T : List (List Bool)} (g : GoodT T) (a b : Int) : mtI (turn T) a b = jnI T a b := by
  unfold mtI jnI
  rw [turn_len]
  cases ha : isL T.length a with
  | false => rfl
  | true => cases hb : isL T.length b with
    | false => rfl
    | true =>
      obtain ⟨x, rfl, hx⟩ := isL_nat ha
      obtain ⟨y, rfl, hy⟩ := isL_nat hb
      have := mt_of (good_turn g) (a := x) (b := y) (by rw [turn_len]; exact hx) (by rw [turn_len]; exact hy) ((glb_turn hx hy).2 (jn_lub g hx hy))
      simp [this]
theorem jnI_turn {T : List (List Bool)} (g : GoodT T) (a b : Int) : jnI (turn T) a b = mtI T a b := by
  unfold mtI jnI
  rw [turn_len]
  cases ha : isL T.length a with
  | false => rfl
  | true => cases hb : isL T.length b with
    | false => rfl
    | true =>
      obtain ⟨x, rfl, hx⟩ := isL_nat ha
      obtain ⟨y, rfl, hy⟩ := isL_nat hb
      have := jn_of (good_turn g) (a := x) (b := y) (by rw [turn_len]; exact hx) (by rw [turn_len]; exact hy) ((lub_turn hx hy).2 (mt_glb g hx hy))
      simp [this]
theorem bt_turn {T : List (List Bool)} (g : GoodT T) : bt (turn T) = tp T :=
  bt_of (good_turn g) (by rw [turn_len]; exact tp_lt g) fun a ha => by rw [turn_len] at ha; rw [turn_tb (tp_lt g) ha]; exact tp_top g ha
theorem tp_turn {T : List (List Bool)} (g : GoodT T) : tp (turn T) = bt T :=
  tp_of (good_turn g) (by rw [turn_len]; exact bt_lt g) fun a ha => by rw [turn_len] at ha; rw [turn_tb ha (bt_lt g)]; exact bt_bot g ha
theorem errT_turn {T : List (List Bool)} (hsq : SqT T) : errT (turn T) = errT T := by
  unfold errT
  rw [turn_len]
  split
  · rfl
  · have h1 : (turn T).all (fun r => decide (r.length = T.length)) = true := by
      simp only [List.all_eq_true, decide_eq_true_eq]
      intro r hr; rw [turn_sq T r hr, turn_len]
    have h2 : T.all (fun r => decide (r.length = T.length)) = true := by
      simp only [List.all_eq_true, decide_eq_true_eq]
      exact hsq
    rw [h1, h2]
theorem LatSt.beside {H H' : AH} {l p q l' p' q' : Nat} {T U : List (List Bool)} (h : LatSt H l p q T) (h' : LatSt H l' p' q' U) (hne : l ≠ l') (st : Stays l' H H') : LatSt H' l p q T := by
  have f : ∀ {i : Nat} {o : AO}, H[i]? = some o → i ≠ l' → H'[i]? = some o := fun {i o} hi hn => by rw [st.2 i (List.getElem?_eq_some_iff.1 hi).1 hn]; exact hi
  have hb' : ∃ c, H[l']? = some (.cells c 53) := by
    rcases h'.box with hb | ⟨_, _, hb, _, _⟩
    · exact ⟨_, hb⟩
    · exact ⟨_, hb⟩
  obtain ⟨c, hb'⟩ := hb'
  refine ⟨?_, f h.pu (fun e => by have := h.pu; rw [e, hb'] at this; cases this), f h.qd (fun e => by have := h.qd; rw [e, hb'] at this; cases this), h.dis⟩
  rcases h.box with hb | ⟨j, m, hb, hj, hm⟩
  · exact .inl (f hb hne)
  · exact .inr ⟨j, m, f hb hne, f hj (fun e => by rw [e, hb'] at hj; cases hj), f hm (fun e => by rw [e, hb'] at hm; cases hm)⟩
set_option maxHeartbeats 16000000 in
/-- The loops that turn the table, and what follows. -/
theorem turned (hle : ∀ b o v, Laid.ro b o = some v → R b o = some v) (tv : AV) (T : List (List Bool)) (hg : Grid R tv T) (a : Int) (_ : (Lit.int .i64 a).wf = true) (b : Int) (_ : (Lit.int .i64 b).wf = true) :
    ACalls Tryd.prog R 8 [tv, .int .i64 a, .int .i64 b] [] fun v _ => v = .bool true := by
  have hT := Tells.tab_of hle
  refine ACalls.of_wpE Fns.ok8 (by simp [Fns.a8]) ?_
  simp [Fns.a8]
  refine (ACalls.ro hle (Nobody.awake _)).mono ?_
  rintro v H ⟨rfl, rfl⟩
  simp
  refine (Tells.wide_ok (grid_tab hg _)).mono ?_
  rintro v H' ⟨rfl, w, rfl, hw⟩
  cases w with
  | true => simp
  | false =>
  rcases grid_head hg with ⟨rfl, h0⟩ | ⟨L, off, cap, rfl⟩
  · have hT0 : T = [] := List.length_eq_zero_iff.1 h0
    subst hT0
    simp [AV.oneCell, zerosEv]
    refine AWp.loop_once (wpE_sound _ ?_)
    simp
    refine AWp.loop_once (wpE_sound _ ?_)
    simp
    refine (new_ok hT _ _ [] (grid_tab hg _) (by simp)).mono ?_
    rintro v H1 ⟨k1, ⟨g, _⟩ | ⟨ng, rfl⟩⟩
    · exact absurd g.lo (by simp)
    rw [show errT [] = 3 from rfl]
    simp
    refine (new_ok hT _ _ [] ⟨[], .inr ⟨_, _, _, rfl, fun i x h => by cases h⟩, rfl, fun i r h => by cases h⟩ (by simp)).mono ?_
    rintro v H2 ⟨k2, ⟨g, _⟩ | ⟨ng, rfl⟩⟩
    · exact absurd g.lo (by simp)
    rw [show errT [] = 3 from rfl]
    simp [eqEv]
  by_cases h40 : 40 < T.length
  · have h40' : (40 : Int) < (T.length : Int) := by omega
    simp [h40, h40']
  have h40' : ¬ (40 : Int) < (T.length : Int) := by omega
  have hz1 : 24 * (T.length : Int) ≤ 281474976710656 := by omega
  have hz2 : (T.length : Int) ≤ 9223372036854775807 := by omega
  simp [h40, h40', hz1, hz2, AV.oneCell]
  refine AWp.loop (fun e H' => H' = ([.cells (zerosEv [.nilslice] T.length) 26] : AH) ∧ e 0 = .slice (.ro L) off T.length cap ∧ e 1 = .int .i64 a ∧ e 2 = .int .i64 b ∧ e 7 = .slice (.mu 0) 0 T.length (.known T.length) ∧ ∃ x : Nat, e 8 = .int .i64 x ∧ x ≤ T.length ∧ ∀ (z : Nat) r, z < x → T[z]? = some r → r.length = T.length)
    (fun e _ => match e 8 with | .int _ i => ((T.length : Int) - i).toNat | _ => 0) ⟨by simp, by simp, by simp, by simp, by simp, 0, by simp, by omega, fun z r h => absurd h (by omega)⟩ ?_
  rintro e H' ⟨rfl, h0, h1, h2, h7, x, h8, hx, hno⟩
  refine wpE_sound _ ?_
  by_cases hxl : x < T.length
  · have hxl' : (x : Int) < (T.length : Int) := by omega
    have hw1 : IntKind.i64.wrap ((x : Int) + 1) = (x : Int) + 1 := i64_small _ (by omega) (by omega)
    have hri : T[x]? = some T[x] := List.getElem?_eq_getElem hxl
    rcases (grid_tab hg ([.cells (zerosEv [.nilslice] T.length) 26] : AH)).row hri with ⟨L', o, c, hrd, _⟩ | ⟨hn, hrd | ⟨A, c, hrd⟩⟩
    · by_cases hl : T[x].length = T.length
      · have hl' : (T[x].length : Int) = (T.length : Int) := by omega
        simp [h0, h1, h2, h7, h8, hxl, hxl', hrd, hl, hl', hw1]
        refine ⟨⟨x + 1, by simp, by omega, fun z r hz hr => ?_⟩, by omega⟩
        by_cases hzx : z = x
        · subst hzx; rw [hri] at hr; cases hr; exact hl
        · exact hno z r (by omega) hr
      · have hl' : ¬ (T[x].length : Int) = (T.length : Int) := by omega
        simp [h0, h8, hxl, hxl', hrd, hl, hl']
    · have hz : ¬ (0 : Int) = (T.length : Int) := by omega
      simp [h0, h8, hxl, hxl', hrd, hz]
    · have hz : ¬ (0 : Int) = (T.length : Int) := by omega
      simp [h0, h8, hxl, hxl', hrd, hz]
  obtain rfl : x = T.length := by omega
  have hsq : SqT T := by
    intro r hr
    obtain ⟨z, hz, rfl⟩ := List.mem_iff_getElem.1 hr
    exact hno z _ hz (List.getElem?_eq_getElem hz)
  obtain ⟨F, hF⟩ : ∃ F : Nat → Nat → Bool, F = fun x y => tb T y x := ⟨_, rfl⟩
  obtain ⟨n, hn⟩ : ∃ n, n = T.length := ⟨_, rfl⟩
  simp [h0, h1, h2, h7, h8]
  refine AWp.loop (fun e H1 => e 0 = .slice (.ro L) off T.length cap ∧ e 1 = .int .i64 a ∧ e 2 = .int .i64 b ∧ e 7 = .slice (.mu 0) 0 T.length (.known T.length) ∧ ∃ i : Nat, e 9 = .int .i64 i ∧ i ≤ T.length ∧ ∃ rows f, HalfF [] H1 0 T.length F i 0 rows f)
    (fun e _ => match e 9 with | .int _ i => ((T.length : Int) - i).toNat | _ => 0) ⟨by simp [h0], by simp [h1], by simp [h2], by simp [h7], 0, by simp, by omega, List.replicate T.length .nilslice, fun _ => 0, ⟨by simp [zerosEv_one], by simp, fun x hx => .inl ⟨by simp [upto], by simp [hx]⟩, fun x y _ _ h => by simp [upto] at h, Keeps.app _ _, Nat.le_refl _⟩⟩ ?_
  rintro e H1 ⟨h0, h1, h2, h7, i, h9, hi, rows, f, hH⟩
  refine wpE_sound _ ?_
  by_cases hil : i < T.length
  · have hil' : (i : Int) < (T.length : Int) := by omega
    have hw1 : IntKind.i64.wrap ((i : Int) + 1) = (i : Int) + 1 := i64_small _ (by omega) (by omega)
    simp [h0, h1, h2, h7, h9, hil, hil']
    refine AWp.loop (fun e H1 => e 0 = .slice (.ro L) off T.length cap ∧ e 1 = .int .i64 a ∧ e 2 = .int .i64 b ∧ e 7 = .slice (.mu 0) 0 T.length (.known T.length) ∧ e 9 = .int .i64 i ∧ ∃ k : Nat, e 10 = .int .i64 k ∧ k ≤ T.length ∧ ∃ rows f, HalfF [] H1 0 T.length F i k rows f)
      (fun e _ => match e 10 with | .int _ i => ((T.length : Int) - i).toNat | _ => 0) ⟨by simp [h0], by simp [h1], by simp [h2], by simp [h7], by simp [h9], 0, by simp, by omega, rows, f, hH⟩ ?_
    rintro e H2 ⟨h0, h1, h2, h7, h9, k, h10, hk, rows, f, hH⟩
    refine wpE_sound _ ?_
    by_cases hkl : k < T.length
    · have hkl' : (k : Int) < (T.length : Int) := by omega
      have hw2 : IntKind.i64.wrap ((k : Int) + 1) = (k : Int) + 1 := i64_small _ (by omega) (by omega)
      obtain ⟨Lk, ok, ck, hrk, hck⟩ := grid_cells hg hsq hkl
      have hcell := hck i hil
      obtain ⟨vb, hvb⟩ : ∃ x, x = F i k := ⟨_, rfl⟩
      rw [show tb T k i = vb by rw [hvb, hF]] at hcell
      have htb := hH.tbl
      have ht0 := (List.getElem?_eq_some_iff.1 htb).1
      have hrl := hH.len
      have hke := hH.keeps
      have hH2l : 0 < H2.length := ht0
      obtain ⟨rv, hrv, hrow⟩ : ∃ rv, rows[i]? = some rv ∧ (RowAt H2 rv k 1 4 (rowF F i k) ∧ ∀ j o l c, rv = .slice (.mu j) o l c → j = f i ∧ 0 < upto T.length i k i) := by
        rcases hH.row i hil with ⟨hu, hr⟩ | ⟨hu, hr, hfa, _, _⟩
        · rw [upto_here] at hu; subst hu; exact ⟨_, hr, .inl ⟨rfl, rfl, by simp [rowF]⟩, fun _ _ _ _ e => (by cases e)⟩
        · rw [upto_here] at hr hfa; exact ⟨_, hr, .inr ⟨f i, rfl, hfa, by simp [rowF]⟩, fun j o l c e => by simp only [AV.slice.injEq, Am.Loc.mu.injEq] at e; exact ⟨e.1.symm, hu⟩⟩
      have hrv' : ∀ h : i < rows.length, rows[i]'h = rv := fun h => Option.some.inj ((List.getElem?_eq_getElem h).symm.trans hrv)
      have hrow1 : RowAt (H2 ++ [.cells [.bool vb] 4]) rv k 1 4 (rowF F i k) := hrow.1.frame fun j hj => by
        rcases hrow.1 with ⟨h, _⟩ | ⟨j', h, hx, _⟩
        · rw [hj] at h; cases h
        · rw [hj] at h; cases h; exact List.getElem?_append_left (List.getElem?_eq_some_iff.1 hx).1
      obtain ⟨G, hG, hGl, hGr, hGf⟩ := append_row (R := R) (by' := 1) hrow1 (src_cells (s := H2.length) (m := 1) (c := [.bool vb]) (t := 4) (cap := .known 1) (by simp) (by simp)) (by omega) (by omega) (by omega) (by omega) (by simp [AV.oneCell]) (by simp)
      simp only [List.length_append, List.length_cons, List.length_nil, Nat.zero_add] at hG hGl hGr hGf
      have hft : ∀ j o l c, rv = .slice (.mu j) o l c → j ≠ 0 := fun j o l c e => by
        obtain ⟨rfl, hu⟩ := hrow.2 j o l c e
        rcases hH.row i hil with ⟨h, _⟩ | ⟨_, _, _, _, h⟩
        · omega
        · exact h
      have htG : G[0]? = some (.cells rows 26) := by
        rw [hGf 0 (by omega) (fun o l c e => hft _ _ _ _ e rfl), List.getElem?_append_left ht0]; exact htb
      have hwr := writeN_rows htG (i := i) (by omega) (.slice (.mu (H2.length + 1)) 0 (k + 1) (.opn 0)) rfl
      have hstep := hH.step (H' := G.set 0 (.cells (rows.set i (.slice (.mu (H2.length + 1)) 0 (k + 1) (.opn 0))) 26)) hil hkl (k := H2.length + 1) (Nat.zero_le _) (by omega)
        (by
          rw [List.getElem?_set, if_neg (by omega), rowF_succ, ← hvb]
          rcases hGr with ⟨h, _⟩ | ⟨j, h, hx, _⟩
          · cases h
          · simp only [AV.slice.injEq, Am.Loc.mu.injEq] at h; rw [h.1]; exact hx)
        (by rw [List.getElem?_set, if_pos rfl, if_pos (by omega)])
        (fun x hx hxi hu => by
          rcases hH.row x hx with ⟨hx0, _⟩ | ⟨_, _, hx3, hx4, hx5⟩
          · omega
          · have hxl := (List.getElem?_eq_some_iff.1 hx3).1
            refine ⟨?_, by omega⟩
            rw [List.getElem?_set, if_neg (Ne.symm hx5), hGf (f x) (by omega) (fun o l c e => ?_), List.getElem?_append_left hxl]
            obtain ⟨e1, hu2⟩ := hrow.2 _ o l c e
            exact hH.inj x i hx hil hu hu2 hxi e1)
        ⟨Nat.zero_le _, fun j hj => absurd hj (Nat.not_lt_zero _)⟩
      have hbt1 : ∀ h, (H2 ++ [AO.cells [AV.bool vb] 4])[0]'h = .cells rows 26 := fun h => Option.some.inj ((List.getElem?_eq_getElem h).symm.trans ((List.getElem?_append_left ht0).trans htb))
      simp [h0, h1, h2, h7, h9, h10, hil, hil', hkl, hkl']
      refine AWp.sched [0, 1, 2, 3, 4, 5, 6, 7, 8, 9, 10, 11, 12, 13, 14, 15, 16] Fns.mixed (by decide +kernel) ?_
      simp (maxSteps := 4000000) [h0, h1, h2, h7, h9, h10, hil, hil', hkl, hkl', hrl, htb, hrv, hrv', hrk, hcell, recheck, AV.oneCell, fillA, splice, zerosEv, hG, hwr, hbt1, hw2]
      exact ⟨⟨k + 1, by simp, by omega, _, _, hstep⟩, by omega⟩
    · obtain rfl : k = T.length := by omega
      have hH' := hH.next
      simp [h0, h1, h2, h7, h9, h10, hw1]
      exact ⟨⟨i + 1, by simp, by omega, rows, f, hH'⟩, by omega⟩
  obtain rfl : i = T.length := by omega
  have hke := hH.keeps
  simp [h0, h1, h2, h7, h9]
  refine (new_ok hT _ _ T (grid_tab hg _) (by omega)).mono ?_
  rintro v H2 ⟨k2, hv⟩
  have htu : TabIn R H2 (.slice (.mu 0) 0 T.length (.known T.length)) (turn T) := by
    unfold turn
    rw [← hF]
    by_cases hn0 : 0 < T.length
    · exact (hH.tab hn0).frame k2.2
    · have : T = [] := List.length_eq_zero_iff.1 (by omega)
      subst this
      exact ⟨[], .inr ⟨_, _, _, rfl, fun i x h => by cases h⟩, rfl, fun i r h => by cases h⟩
  rcases hv with ⟨g, l, p, q, rfl, hin, _, _, _⟩ | ⟨ng, rfl⟩
  · have hll := (List.getElem?_eq_some_iff.1 hin.box).1
    simp [h0, h1, h2, h7]
    refine (new_ok hT _ _ (turn T) htu (by rw [turn_len]; omega)).mono ?_
    rintro v H3 ⟨k3, ⟨g', l', p', q', rfl, hin', hl', _, _⟩ | ⟨ng', rfl⟩⟩
    rotate_left
    · exact absurd (good_turn g) ng'
    have S := (hin.keeps k3).st
    have S' := hin'.st
    have hne : l ≠ l' := by omega
    simp [h1, h2]
    refine (below_ok (S.latAt g) a b).mono ?_
    rintro v H4 ⟨rfl, rfl⟩
    simp [h1, h2]
    refine (below_ok (S'.latAt g') b a).mono ?_
    rintro v H4 ⟨rfl, rfl⟩
    rw [bel_tbI, bel_tbI, tbI_turn]
    simp [h1, h2, eqEv]
    refine (join_ok hT g S a b).mono ?_
    rintro v H5 ⟨rfl, st5, S5⟩
    have S5' := LatSt.beside S' S (Ne.symm hne) st5
    simp [h1, h2]
    refine (meet_ok hT g' S5' a b).mono ?_
    rintro v H6 ⟨rfl, st6, S6'⟩
    have S6 := LatSt.beside S5 S5' hne st6
    rw [mtI_turn g]
    simp [h1, h2]
    refine (meet_ok hT g S6 a b).mono ?_
    rintro v H7 ⟨rfl, st7, S7⟩
    have S7' := LatSt.beside S6' S6 (Ne.symm hne) st7
    simp [h1, h2]
    refine (join_ok hT g' S7' a b).mono ?_
    rintro v H8 ⟨rfl, st8, S8'⟩
    have S8 := LatSt.beside S7 S7' hne st8
    rw [jnI_turn g]
    simp [h1, h2]
    refine (top_ok hT g S8).mono ?_
    rintro v H9 ⟨rfl, st9, S9⟩
    have S9' := LatSt.beside S8' S8 (Ne.symm hne) st9
    simp [h1, h2]
    refine (bottom_ok hT g' S9').mono ?_
    rintro v H10 ⟨rfl, st10, S10'⟩
    have S10 := LatSt.beside S9 S9' hne st10
    rw [bt_turn g]
    simp [h1, h2]
    refine (bottom_ok hT g S10).mono ?_
    rintro v H11 ⟨rfl, st11, S11⟩
    have S11' := LatSt.beside S10' S10 (Ne.symm hne) st11
    simp [h1, h2]
    refine (top_ok hT g' S11').mono ?_
    rintro v H12 ⟨rfl, st12, S12'⟩
    rw [tp_turn g]
    simp [h1, h2]
  · have hne := errT_ne T
    simp [h0, h1, h2, h7]
    refine (new_ok hT _ _ (turn T) htu (by rw [turn_len]; omega)).mono ?_
    rintro v H3 ⟨k3, ⟨g', _⟩ | ⟨ng', rfl⟩⟩
    · exact absurd (turn_good hsq g') ng
    rw [errT_turn hsq]
    simp [hne, eqEv]
end Go.Proofs.YtjglohfkpigdfaaDoor.Turned
